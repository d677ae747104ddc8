/- The functions that FnExactGetProof calls, each held to what it answers. Printed by a program of this session; Lean checks it. -/
import Derived.Test.YtlcmflenbddliaaProg
import Derived.Test.YtlcmflenbddliaaRFnExactGetProofx1
namespace Go.Proofs.Ytlcmflenbddliaa.Rf
open Go.RowKit
set_option linter.unusedVariables false
set_option linter.unnecessarySimpa false
set_option linter.unusedSimpArgs false
set_option maxRecDepth 100000
set_option maxHeartbeats 4000000
theorem ok_impl_GetVar (b : List Int) (a : Int) (h0_ : U8s b) (h1_ : b.length ≤ 1099511627776) : RO Try.prog 179 [.one (.ints .u8 b), .one (.int .i64 a)] [(false, [.rd (.int .i64 (getVar b a).1)]), (false, [.rd (.int .i64 (getVar b a).2.1)]), (false, [.rd (.int .i64 (getVar b a).2.2)])] := by
 refine RO.intro Try.func179 rfl 61 rfl (le_ok rfl) fun w Z => ?_
 refine T.bnd 0 0 rfl rfl fun hb_0_0 => ?_
 simp only [D.size, List.length_map] at hb_0_0
 refine T.seq ?_
 refine T.region ?_
 refine TL.cons rfl (Step.assign (p := (.one (.d (.int .i64 0)))) rfl rfl (lt_ok rfl) rfl) ?_
 refine TL.cons rfl (Step.assign (p := (.one (.d (.int .i64 0)))) rfl rfl (lt_ok rfl) rfl) ?_
 refine TL.cons rfl (Step.assign (p := (.one (.d (.int .i64 0)))) rfl rfl (lt_ok rfl) rfl) ?_
 refine TL.nil ?_
 refine T.seq ?_
 refine T.seq ?_
 refine T.region ?_
 refine TL.cons rfl (Step.move (p := (.one (.d (.int .i64 a)))) rfl rfl (lt_ok rfl) rfl) ?_
 refine TL.cons rfl (Step.move (p := (.one (.d (.ints .u8 b)))) rfl rfl (lt_ok rfl) rfl) ?_
 refine TL.cons rfl (Step.len (e := 5) (z := 1) (d := (.ints .u8 b)) rfl rfl (lt_ok rfl) (by kernel_rfl) rfl rfl) ?_
 refine TL.cons rfl (Step.call (f := 117) (xs := [.tmp 10, .const (.int .i64 0), .tmp 12]) (ps := [(.one (.d (.int .i64 a))), (.one (.d (.int .i64 0))), (.one (.d (.int .i64 (b.length : Int))))]) false (g := .func 117) rfl rfl (lt_ok rfl) rfl (by kernel_rfl) rfl (.cons (.one (.d _)) (.cons (.one (.d _)) (.cons (.one (.d _)) .nil))) (ok_impl_within a 0 (b.length : Int)) (.inr rfl) rfl (by simp) rfl) ?_
 refine TL.cons rfl (Step.not (b := (decide (0 ≤ a ∧ a ≤ (b.length : Int)))) rfl rfl (lt_ok rfl) rfl) ?_
 refine TL.nil ?_
 refine T.cond (b := !(decide (0 ≤ a ∧ a ≤ (b.length : Int)))) rfl (fun h1 => ?_) (fun h1 => ?_)
 ·
  replace h1 : (decide (0 ≤ a ∧ a ≤ (b.length : Int))) = false := by simpa only [Bool.not_eq_true', Bool.not_eq_false'] using h1
  replace h1 := of_decide_eq_false h1
  refine T.seq ?_
  refine T.region ?_
  refine TL.cons rfl (Step.assign (p := (.one (.d (.int .i64 0)))) rfl rfl (lt_ok rfl) rfl) ?_
  refine TL.cons rfl (Step.assign (p := (.one (.d (.int .i64 0)))) rfl rfl (lt_ok rfl) rfl) ?_
  refine TL.cons rfl (Step.assign (p := (.one (.d (.int .i64 1)))) rfl rfl (lt_ok rfl) rfl) ?_
  refine TL.nil ?_
  refine T.ret ?_
  refine ⟨[(false, [.d (.int .i64 0)]), (false, [.d (.int .i64 0)]), (false, [.d (.int .i64 1)])], (.cons rfl (.cons rfl (.cons rfl .nil))), rfl, [], (RetC.rd' ?_ (RetC.rd' ?_ (RetC.rd' ?_ .nil)))⟩ <;> ((congr 1; first | (rw [getVar_out (by omega)]; done) | (rw [getVar_in (by omega), ← hx4]; first | (rw [gvGo_short (by omega) (by omega)]; done) | (rw [gvGo_var (by omega) (by omega) (by omega)]; done) | (rw [gvGo_done (by omega) (by omega) (by omega) (by omega) (by omega)]; done) | (rw [gvGo_big (by omega) (by omega) (by omega) (by omega) (by omega)]; done) | (rw [gvGo_end (by omega)]; done))))
 ·
  replace h1 : (decide (0 ≤ a ∧ a ≤ (b.length : Int))) = true := by simpa only [Bool.not_eq_true', Bool.not_eq_false'] using h1
  replace h1 := of_decide_eq_true h1
  refine T.skip ?_
  refine T.seq ?_
  refine T.region ?_
  refine TL.cons rfl (Step.assign (p := (.one (.d (.int .i64 0)))) rfl rfl (lt_ok rfl) rfl) ?_
  refine TL.nil ?_
  refine T.seq ?_
  refine T.region ?_
  refine TL.cons rfl (Step.assign (p := (.one (.d (.int .i64 0)))) rfl rfl (lt_ok rfl) rfl) ?_
  refine TL.nil ?_
  refine T.block ?_
  refine T.loop (ι := Nat × Int) (fun xx_ => { tm := [(0, (.one (.d (.ints .u8 b)))), (1, (.one (.d (.int .i64 a)))), (8, (.one (.d (.int .i64 ((xx_.1) : Int))))), (7, (.one (.d (.int .i64 (xx_.2)))))], rows := [], boxes := [] }) (fun xx_ => (xx_.1) ≤ 8 ∧ 0 ≤ (xx_.2) ∧ (xx_.2) < 128 ^ (xx_.1) ∧ gvGo b a (9 - (xx_.1)) (xx_.1) (xx_.2) = gvGo b a 9 0 0) (fun xx_ => 9 - (xx_.1)) (0, 0) ?_ ?_ ?_
  · refine Env.le_mk ⟨rfl, rfl, ?_, ?_, trivial⟩ trivial trivial <;> (first | rfl | (refine congrArg (fun n => PV.one (.d (.int .i64 n))) ?_; first | rfl | omega | (simp; done)))
  · (dsimp only; refine ⟨by omega, by omega, by simp, rfl⟩)
  ·
   intro xx_ hx
   obtain ⟨i, n⟩ := xx_
   try dsimp only at hx ⊢
   obtain ⟨hx1, hx2, hx3, hx4⟩ := hx
   have hu_ := getD_u8 h0_ (a + (i : Int)).toNat
   have hm_ := gv_mul hu_.1 i
   have hp_ := pow128 (i := i) (by omega)
   refine T.seq ?_
   refine T.block ?_
   refine T.seq ?_
   refine T.seq ?_
   refine T.region ?_
   refine TL.cons rfl (Step.move (p := (.one (.d (.int .i64 a)))) rfl rfl (lt_ok rfl) rfl) ?_
   refine TL.cons rfl (Step.move (p := (.one (.d (.int .i64 (i : Int))))) rfl rfl (lt_ok rfl) rfl) ?_
   refine TL.cons rfl (Step.bin (r := .int .i64 (a + (i : Int))) rfl rfl (lt_ok rfl) rfl rfl (Bin.add (a := a) (b := (i : Int)) (by first | exact wrap_ok (by first | omega | (simp; omega)) (by first | omega | (simp; omega)) | rfl))) ?_
   refine TL.cons rfl (Step.move (p := (.one (.d (.ints .u8 b)))) rfl rfl (lt_ok rfl) rfl) ?_
   refine TL.cons rfl (Step.len (e := 5) (z := 1) (d := (.ints .u8 b)) rfl rfl (lt_ok rfl) (by kernel_rfl) rfl rfl) ?_
   refine TL.cons rfl (Step.bin rfl rfl (lt_ok rfl) rfl rfl (Bin.geq (k := .i64) (a := (a + (i : Int))) (b := (b.length : Int)))) ?_
   refine TL.nil ?_
   refine T.cond (b := decide ((b.length : Int) ≤ (a + (i : Int)))) rfl (fun h2 => ?_) (fun h2 => ?_)
   ·
    replace h2 := of_decide_eq_true h2
    refine T.seq ?_
    refine T.region ?_
    refine TL.cons rfl (Step.assign (p := (.one (.d (.int .i64 0)))) rfl rfl (lt_ok rfl) rfl) ?_
    refine TL.cons rfl (Step.assign (p := (.one (.d (.int .i64 0)))) rfl rfl (lt_ok rfl) rfl) ?_
    refine TL.cons rfl (Step.assign (p := (.one (.d (.int .i64 1)))) rfl rfl (lt_ok rfl) rfl) ?_
    refine TL.nil ?_
    refine T.ret ?_
    refine ⟨[(false, [.d (.int .i64 0)]), (false, [.d (.int .i64 0)]), (false, [.d (.int .i64 1)])], (.cons rfl (.cons rfl (.cons rfl .nil))), rfl, [], (RetC.rd' ?_ (RetC.rd' ?_ (RetC.rd' ?_ .nil)))⟩ <;> ((congr 1; first | (rw [getVar_out (by omega)]; done) | (rw [getVar_in (by omega), ← hx4]; first | (rw [gvGo_short (by omega) (by omega)]; done) | (rw [gvGo_var (by omega) (by omega) (by omega)]; done) | (rw [gvGo_done (by omega) (by omega) (by omega) (by omega) (by omega)]; done) | (rw [gvGo_big (by omega) (by omega) (by omega) (by omega) (by omega)]; done) | (rw [gvGo_end (by omega)]; done))))
   ·
    replace h2 := of_decide_eq_false h2
    refine T.skip ?_
    refine T.seq ?_
    refine T.region ?_
    refine TL.cons rfl (Step.move (p := (.one (.d (.ints .u8 b)))) rfl rfl (lt_ok rfl) rfl) ?_
    refine TL.cons rfl (Step.move (p := (.one (.d (.int .i64 a)))) rfl rfl (lt_ok rfl) rfl) ?_
    refine TL.cons rfl (Step.move (p := (.one (.d (.int .i64 (i : Int))))) rfl rfl (lt_ok rfl) rfl) ?_
    refine TL.cons rfl (Step.bin (r := .int .i64 (a + (i : Int))) rfl rfl (lt_ok rfl) rfl rfl (Bin.add (a := a) (b := (i : Int)) (by first | exact wrap_ok (by first | omega | (simp; omega)) (by first | omega | (simp; omega)) | rfl))) ?_
    refine TL.cons rfl (Step.index (e := 5) (z := 1) (i := (a + (i : Int))) rfl rfl (lt_ok rfl) (by kernel_rfl) rfl rfl rfl (lt_ok rfl) rfl (by first | omega | (simp; omega)) (by simp only [D.size]; first | omega | (simp; omega))) ?_
    refine TL.cons rfl (Step.load (e := (.int .u8 (b.getD (a + (i : Int)).toNat 0))) rfl rfl (lt_ok rfl) (by kernel_rfl) rfl rfl) ?_
    refine TL.cons rfl (Step.assign (p := (.one (.d (.int .u8 (b.getD (a + (i : Int)).toNat 0))))) rfl rfl (lt_ok rfl) rfl) ?_
    refine TL.nil ?_
    refine T.seq ?_
    refine T.seq ?_
    refine T.region ?_
    refine TL.cons rfl (Step.move (p := (.one (.d (.int .i64 (i : Int))))) rfl rfl (lt_ok rfl) rfl) ?_
    refine TL.cons rfl (Step.bin rfl rfl (lt_ok rfl) rfl rfl (Bin.gtr (k := .i64) (a := (i : Int)) (b := 0))) ?_
    refine TL.cons rfl (Step.move (p := (.one (.d (.bool (decide (0 < (i : Int))))))) rfl rfl (lt_ok rfl) rfl) ?_
    rcases Bool.eq_false_or_eq_true (decide (0 < (i : Int))) with hb3 | hb3
    ·
     refine TL.known 31 hb3 rfl ?_
     have hb3' := hb3
     replace hb3' := of_decide_eq_true hb3'
     refine TL.gyes 31 rfl rfl (lt_ok rfl) rfl (Step.move (p := (.one (.d (.int .u8 (b.getD (a + (i : Int)).toNat 0))))) rfl rfl (lt_ok rfl) rfl) ?_
     refine TL.gyes 31 rfl rfl (lt_ok rfl) rfl (Step.bin rfl rfl (lt_ok rfl) rfl rfl (Bin.eql (k := .u8) (a := (b.getD (a + (i : Int)).toNat 0)) (b := 0))) ?_
     refine TL.cons rfl (Step.pick (b := true) (p := (.one (.d (.bool (decide ((b.getD (a + (i : Int)).toNat 0) = 0)))))) rfl rfl (lt_ok rfl) rfl rfl) ?_
     refine TL.cons rfl (Step.move (p := (.one (.d (.bool (decide ((b.getD (a + (i : Int)).toNat 0) = 0)))))) rfl rfl (lt_ok rfl) rfl) ?_
     rcases Bool.eq_false_or_eq_true (decide ((b.getD (a + (i : Int)).toNat 0) = 0)) with hb4 | hb4
     ·
      refine TL.known 35 hb4 rfl ?_
      have hb4' := hb4
      replace hb4' := of_decide_eq_true hb4'
      refine TL.goff 35 rfl rfl (lt_ok rfl) rfl rfl rfl (lt_ok rfl) ?_
      refine TL.goff 35 rfl rfl (lt_ok rfl) rfl rfl rfl (lt_ok rfl) ?_
      refine TL.goff 35 rfl rfl (lt_ok rfl) rfl rfl rfl (lt_ok rfl) ?_
      refine TL.goffU 38 rfl rfl (lt_ok rfl) rfl rfl (lt_ok rfl) ?_
      refine TL.goffU 38 rfl rfl (lt_ok rfl) rfl rfl (lt_ok rfl) ?_
      refine TL.goff 35 rfl rfl (lt_ok rfl) rfl rfl rfl (lt_ok rfl) ?_
      refine TL.cons rfl (Step.pick (b := true) (p := (.one (.d (.bool true)))) rfl rfl (lt_ok rfl) rfl rfl) ?_
      refine TL.nil ?_
      refine T.cond (b := true) rfl (fun h5_ => ?_) (fun h5_ => absurd h5_ (by simp))
      refine T.seq ?_
      refine T.region ?_
      refine TL.cons rfl (Step.assign (p := (.one (.d (.int .i64 0)))) rfl rfl (lt_ok rfl) rfl) ?_
      refine TL.cons rfl (Step.assign (p := (.one (.d (.int .i64 0)))) rfl rfl (lt_ok rfl) rfl) ?_
      refine TL.cons rfl (Step.assign (p := (.one (.d (.int .i64 2)))) rfl rfl (lt_ok rfl) rfl) ?_
      refine TL.nil ?_
      refine T.ret ?_
      refine ⟨[(false, [.d (.int .i64 0)]), (false, [.d (.int .i64 0)]), (false, [.d (.int .i64 2)])], (.cons rfl (.cons rfl (.cons rfl .nil))), rfl, [], (RetC.rd' ?_ (RetC.rd' ?_ (RetC.rd' ?_ .nil)))⟩ <;> ((congr 1; first | (rw [getVar_out (by omega)]; done) | (rw [getVar_in (by omega), ← hx4]; first | (rw [gvGo_short (by omega) (by omega)]; done) | (rw [gvGo_var (by omega) (by omega) (by omega)]; done) | (rw [gvGo_done (by omega) (by omega) (by omega) (by omega) (by omega)]; done) | (rw [gvGo_big (by omega) (by omega) (by omega) (by omega) (by omega)]; done) | (rw [gvGo_end (by omega)]; done))))
     ·
      refine TL.known 35 hb4 rfl ?_
      have hb4' := hb4
      replace hb4' := of_decide_eq_false hb4'
      refine TL.gyes 35 rfl rfl (lt_ok rfl) rfl (Step.move (p := (.one (.d (.int .i64 (i : Int))))) rfl rfl (lt_ok rfl) rfl) ?_
      refine TL.gyes 35 rfl rfl (lt_ok rfl) rfl (Step.bin rfl rfl (lt_ok rfl) rfl rfl (Bin.eql (k := .i64) (a := (i : Int)) (b := 8))) ?_
      refine TL.gyes 35 rfl rfl (lt_ok rfl) rfl (Step.move (p := (.one (.d (.bool (decide ((i : Int) = 8)))))) rfl rfl (lt_ok rfl) rfl) ?_
      rcases Bool.eq_false_or_eq_true (decide ((i : Int) = 8)) with hb6 | hb6
      ·
       refine TL.known 38 hb6 rfl ?_
       have hb6' := hb6
       replace hb6' := of_decide_eq_true hb6'
       refine TL.gyes 38 rfl rfl (lt_ok rfl) rfl (Step.move (p := (.one (.d (.int .u8 (b.getD (a + (i : Int)).toNat 0))))) rfl rfl (lt_ok rfl) rfl) ?_
       refine TL.gyes 38 rfl rfl (lt_ok rfl) rfl (Step.bin rfl rfl (lt_ok rfl) rfl rfl (Bin.geq (k := .u8) (a := (b.getD (a + (i : Int)).toNat 0)) (b := 128))) ?_
       refine TL.gyes 35 rfl rfl (lt_ok rfl) rfl (Step.pick (b := true) (p := (.one (.d (.bool (decide (128 ≤ (b.getD (a + (i : Int)).toNat 0))))))) rfl rfl (lt_ok rfl) rfl rfl) ?_
       refine TL.cons rfl (Step.pick (b := false) (p := (.one (.d (.bool (decide (128 ≤ (b.getD (a + (i : Int)).toNat 0))))))) rfl rfl (lt_ok rfl) rfl rfl) ?_
       refine TL.nil ?_
       refine T.cond (b := decide (128 ≤ (b.getD (a + (i : Int)).toNat 0))) rfl (fun h7 => ?_) (fun h7 => ?_)
       ·
        replace h7 := of_decide_eq_true h7
        refine T.seq ?_
        refine T.region ?_
        refine TL.cons rfl (Step.assign (p := (.one (.d (.int .i64 0)))) rfl rfl (lt_ok rfl) rfl) ?_
        refine TL.cons rfl (Step.assign (p := (.one (.d (.int .i64 0)))) rfl rfl (lt_ok rfl) rfl) ?_
        refine TL.cons rfl (Step.assign (p := (.one (.d (.int .i64 2)))) rfl rfl (lt_ok rfl) rfl) ?_
        refine TL.nil ?_
        refine T.ret ?_
        refine ⟨[(false, [.d (.int .i64 0)]), (false, [.d (.int .i64 0)]), (false, [.d (.int .i64 2)])], (.cons rfl (.cons rfl (.cons rfl .nil))), rfl, [], (RetC.rd' ?_ (RetC.rd' ?_ (RetC.rd' ?_ .nil)))⟩ <;> ((congr 1; first | (rw [getVar_out (by omega)]; done) | (rw [getVar_in (by omega), ← hx4]; first | (rw [gvGo_short (by omega) (by omega)]; done) | (rw [gvGo_var (by omega) (by omega) (by omega)]; done) | (rw [gvGo_done (by omega) (by omega) (by omega) (by omega) (by omega)]; done) | (rw [gvGo_big (by omega) (by omega) (by omega) (by omega) (by omega)]; done) | (rw [gvGo_end (by omega)]; done))))
       ·
        replace h7 := of_decide_eq_false h7
        refine T.skip ?_
        refine T.seq ?_
        refine T.region ?_
        refine TL.cons rfl (Step.move (p := (.one (.d (.int .i64 n)))) rfl rfl (lt_ok rfl) rfl) ?_
        refine TL.cons rfl (Step.move (p := (.one (.d (.int .u8 (b.getD (a + (i : Int)).toNat 0))))) rfl rfl (lt_ok rfl) rfl) ?_
        refine TL.cons rfl (Step.bin (r := .int .u8 (b.getD (a + (i : Int)).toNat 0 % 128)) rfl rfl (lt_ok rfl) rfl rfl (Bin.and (k := .u8) (a := (b.getD (a + (i : Int)).toNat 0)) (b := 127) (and127 hu_.1 hu_.2))) ?_
        refine TL.cons rfl (Step.conv (c := (b.getD (a + (i : Int)).toNat 0 % 128)) rfl rfl (lt_ok rfl) (by kernel_rfl) (by kernel_rfl) rfl (wrap_ok (by first | omega | (simp; omega)) (by first | omega | (simp; omega)))) ?_
        refine TL.cons rfl (Step.move (p := (.one (.d (.int .i64 (i : Int))))) rfl rfl (lt_ok rfl) rfl) ?_
        refine TL.cons rfl (Step.bin (r := .int .i64 (7 * (i : Int))) rfl rfl (lt_ok rfl) rfl rfl (Bin.mul (a := 7) (b := (i : Int)) (by first | exact wrap_ok (by first | omega | (simp; omega)) (by first | omega | (simp; omega)) | rfl))) ?_
        refine TL.cons rfl (Step.bin (r := .int .i64 (b.getD (a + (i : Int)).toNat 0 % 128 * 128 ^ i)) rfl rfl (lt_ok rfl) rfl rfl (Bin.shl (k := .i64) (k' := .i64) (a := (b.getD (a + (i : Int)).toNat 0 % 128)) (b := (7 * (i : Int))) (by first | omega | (simp; omega)) (shl_var (by omega) (by omega) (by omega)))) ?_
        refine TL.cons rfl (Step.bin (r := .int .i64 (n + b.getD (a + (i : Int)).toNat 0 % 128 * 128 ^ i)) rfl rfl (lt_ok rfl) rfl rfl (Bin.or (k := .i64) (a := n) (b := (b.getD (a + (i : Int)).toNat 0 % 128 * 128 ^ i)) (or_add (by omega) (by omega) (by omega) (by omega) (by omega)))) ?_
        refine TL.cons rfl (Step.assign (p := (.one (.d (.int .i64 (n + b.getD (a + (i : Int)).toNat 0 % 128 * 128 ^ i))))) rfl rfl (lt_ok rfl) rfl) ?_
        refine TL.nil ?_
        refine T.seq ?_
        refine T.region ?_
        refine TL.cons rfl (Step.move (p := (.one (.d (.int .u8 (b.getD (a + (i : Int)).toNat 0))))) rfl rfl (lt_ok rfl) rfl) ?_
        refine TL.cons rfl (Step.bin rfl rfl (lt_ok rfl) rfl rfl (Bin.lss (k := .u8) (a := (b.getD (a + (i : Int)).toNat 0)) (b := 128))) ?_
        refine TL.nil ?_
        refine T.cond (b := decide ((b.getD (a + (i : Int)).toNat 0) < 128)) rfl (fun h8 => ?_) (fun h8 => ?_)
        ·
         replace h8 := of_decide_eq_true h8
         refine T.seq ?_
         refine T.seq ?_
         refine T.region ?_
         refine TL.cons rfl (Step.move (p := (.one (.d (.int .i64 (n + b.getD (a + (i : Int)).toNat 0 % 128 * 128 ^ i))))) rfl rfl (lt_ok rfl) rfl) ?_
         refine TL.cons rfl (Step.call (f := 155) (xs := [.tmp 53]) (ps := [(.one (.d (.int .i64 (n + b.getD (a + (i : Int)).toNat 0 % 128 * 128 ^ i))))]) false (g := .func 155) rfl rfl (lt_ok rfl) rfl (by kernel_rfl) rfl (.cons (.one (.d _)) .nil) (ok_impl_isNum (n + b.getD (a + (i : Int)).toNat 0 % 128 * 128 ^ i)) (.inr rfl) rfl (by simp) rfl) ?_
         refine TL.cons rfl (Step.not (b := (decide (0 ≤ (n + b.getD (a + (i : Int)).toNat 0 % 128 * 128 ^ i) ∧ (n + b.getD (a + (i : Int)).toNat 0 % 128 * 128 ^ i) ≤ 1152921504606846975))) rfl rfl (lt_ok rfl) rfl) ?_
         refine TL.nil ?_
         refine T.cond (b := !(decide (0 ≤ (n + b.getD (a + (i : Int)).toNat 0 % 128 * 128 ^ i) ∧ (n + b.getD (a + (i : Int)).toNat 0 % 128 * 128 ^ i) ≤ 1152921504606846975))) rfl (fun h9 => ?_) (fun h9 => ?_)
         ·
          replace h9 : (decide (0 ≤ (n + b.getD (a + (i : Int)).toNat 0 % 128 * 128 ^ i) ∧ (n + b.getD (a + (i : Int)).toNat 0 % 128 * 128 ^ i) ≤ 1152921504606846975)) = false := by simpa only [Bool.not_eq_true', Bool.not_eq_false'] using h9
          replace h9 := of_decide_eq_false h9
          refine T.seq ?_
          refine T.region ?_
          refine TL.cons rfl (Step.assign (p := (.one (.d (.int .i64 0)))) rfl rfl (lt_ok rfl) rfl) ?_
          refine TL.cons rfl (Step.assign (p := (.one (.d (.int .i64 0)))) rfl rfl (lt_ok rfl) rfl) ?_
          refine TL.cons rfl (Step.assign (p := (.one (.d (.int .i64 2)))) rfl rfl (lt_ok rfl) rfl) ?_
          refine TL.nil ?_
          refine T.ret ?_
          refine ⟨[(false, [.d (.int .i64 0)]), (false, [.d (.int .i64 0)]), (false, [.d (.int .i64 2)])], (.cons rfl (.cons rfl (.cons rfl .nil))), rfl, [], (RetC.rd' ?_ (RetC.rd' ?_ (RetC.rd' ?_ .nil)))⟩ <;> ((congr 1; first | (rw [getVar_out (by omega)]; done) | (rw [getVar_in (by omega), ← hx4]; first | (rw [gvGo_short (by omega) (by omega)]; done) | (rw [gvGo_var (by omega) (by omega) (by omega)]; done) | (rw [gvGo_done (by omega) (by omega) (by omega) (by omega) (by omega)]; done) | (rw [gvGo_big (by omega) (by omega) (by omega) (by omega) (by omega)]; done) | (rw [gvGo_end (by omega)]; done))))
         ·
          replace h9 : (decide (0 ≤ (n + b.getD (a + (i : Int)).toNat 0 % 128 * 128 ^ i) ∧ (n + b.getD (a + (i : Int)).toNat 0 % 128 * 128 ^ i) ≤ 1152921504606846975)) = true := by simpa only [Bool.not_eq_true', Bool.not_eq_false'] using h9
          replace h9 := of_decide_eq_true h9
          refine T.skip ?_
          refine T.seq ?_
          refine T.region ?_
          refine TL.cons rfl (Step.move (p := (.one (.d (.int .i64 (n + b.getD (a + (i : Int)).toNat 0 % 128 * 128 ^ i))))) rfl rfl (lt_ok rfl) rfl) ?_
          refine TL.cons rfl (Step.move (p := (.one (.d (.int .i64 a)))) rfl rfl (lt_ok rfl) rfl) ?_
          refine TL.cons rfl (Step.move (p := (.one (.d (.int .i64 (i : Int))))) rfl rfl (lt_ok rfl) rfl) ?_
          refine TL.cons rfl (Step.bin (r := .int .i64 (a + (i : Int))) rfl rfl (lt_ok rfl) rfl rfl (Bin.add (a := a) (b := (i : Int)) (by first | exact wrap_ok (by first | omega | (simp; omega)) (by first | omega | (simp; omega)) | rfl))) ?_
          refine TL.cons rfl (Step.bin (r := .int .i64 ((a + (i : Int)) + 1)) rfl rfl (lt_ok rfl) rfl rfl (Bin.add (a := (a + (i : Int))) (b := 1) (by first | exact wrap_ok (by first | omega | (simp; omega)) (by first | omega | (simp; omega)) | rfl))) ?_
          refine TL.cons rfl (Step.assign (p := (.one (.d (.int .i64 (n + b.getD (a + (i : Int)).toNat 0 % 128 * 128 ^ i))))) rfl rfl (lt_ok rfl) rfl) ?_
          refine TL.cons rfl (Step.assign (p := (.one (.d (.int .i64 ((a + (i : Int)) + 1))))) rfl rfl (lt_ok rfl) rfl) ?_
          refine TL.cons rfl (Step.assign (p := (.one (.d (.int .i64 0)))) rfl rfl (lt_ok rfl) rfl) ?_
          refine TL.nil ?_
          refine T.ret ?_
          refine ⟨[(false, [.d (.int .i64 (n + b.getD (a + (i : Int)).toNat 0 % 128 * 128 ^ i))]), (false, [.d (.int .i64 ((a + (i : Int)) + 1))]), (false, [.d (.int .i64 0)])], (.cons rfl (.cons rfl (.cons rfl .nil))), rfl, [], (RetC.rd' ?_ (RetC.rd' ?_ (RetC.rd' ?_ .nil)))⟩ <;> ((congr 1; first | (rw [getVar_out (by omega)]; done) | (rw [getVar_in (by omega), ← hx4]; first | (rw [gvGo_short (by omega) (by omega)]; done) | (rw [gvGo_var (by omega) (by omega) (by omega)]; done) | (rw [gvGo_done (by omega) (by omega) (by omega) (by omega) (by omega)]; done) | (rw [gvGo_big (by omega) (by omega) (by omega) (by omega) (by omega)]; done) | (rw [gvGo_end (by omega)]; done))))
        ·
         replace h8 := of_decide_eq_false h8
         refine T.skip ?_
         refine T.region ?_
         refine TL.cons rfl (Step.move (p := (.one (.d (.int .i64 (i : Int))))) rfl rfl (lt_ok rfl) rfl) ?_
         refine TL.cons rfl (Step.bin (r := .int .i64 ((i : Int) + 1)) rfl rfl (lt_ok rfl) rfl rfl (Bin.add (a := (i : Int)) (b := 1) (by first | exact wrap_ok (by first | omega | (simp; omega)) (by first | omega | (simp; omega)) | rfl))) ?_
         refine TL.cons rfl (Step.assign (p := (.one (.d (.int .i64 ((i : Int) + 1))))) rfl rfl (lt_ok rfl) rfl) ?_
         refine TL.nil ?_
         refine ⟨(i + 1, n + b.getD (a + (i : Int)).toNat 0 % 128 * 128 ^ i), by (try dsimp only); (refine ⟨by omega, by omega, by rw [Int.pow_succ]; omega, ?_⟩; exact (gvGo_next (n := n) (by omega) (by omega) (by omega) (by omega)).symm.trans hx4), by (dsimp only; omega), Env.le_mk ⟨rfl, rfl, ?_, ?_, trivial⟩ trivial trivial⟩ <;> (first | rfl | (refine congrArg (fun n => PV.one (.d (.int .i64 n))) ?_; first | rfl | omega | (simp; done)))
      ·
       refine TL.known 38 hb6 rfl ?_
       have hb6' := hb6
       replace hb6' := of_decide_eq_false hb6'
       refine TL.goff 38 rfl rfl (lt_ok rfl) rfl rfl rfl (lt_ok rfl) ?_
       refine TL.goff 38 rfl rfl (lt_ok rfl) rfl rfl rfl (lt_ok rfl) ?_
       refine TL.gyes 35 rfl rfl (lt_ok rfl) rfl (Step.pick (b := false) (p := (.one (.d (.bool false)))) rfl rfl (lt_ok rfl) rfl rfl) ?_
       refine TL.cons rfl (Step.pick (b := false) (p := (.one (.d (.bool false)))) rfl rfl (lt_ok rfl) rfl rfl) ?_
       refine TL.nil ?_
       refine T.cond (b := false) rfl (fun h10_ => absurd h10_ (by simp)) (fun h10_ => ?_)
       refine T.skip ?_
       refine T.seq ?_
       refine T.region ?_
       refine TL.cons rfl (Step.move (p := (.one (.d (.int .i64 n)))) rfl rfl (lt_ok rfl) rfl) ?_
       refine TL.cons rfl (Step.move (p := (.one (.d (.int .u8 (b.getD (a + (i : Int)).toNat 0))))) rfl rfl (lt_ok rfl) rfl) ?_
       refine TL.cons rfl (Step.bin (r := .int .u8 (b.getD (a + (i : Int)).toNat 0 % 128)) rfl rfl (lt_ok rfl) rfl rfl (Bin.and (k := .u8) (a := (b.getD (a + (i : Int)).toNat 0)) (b := 127) (and127 hu_.1 hu_.2))) ?_
       refine TL.cons rfl (Step.conv (c := (b.getD (a + (i : Int)).toNat 0 % 128)) rfl rfl (lt_ok rfl) (by kernel_rfl) (by kernel_rfl) rfl (wrap_ok (by first | omega | (simp; omega)) (by first | omega | (simp; omega)))) ?_
       refine TL.cons rfl (Step.move (p := (.one (.d (.int .i64 (i : Int))))) rfl rfl (lt_ok rfl) rfl) ?_
       refine TL.cons rfl (Step.bin (r := .int .i64 (7 * (i : Int))) rfl rfl (lt_ok rfl) rfl rfl (Bin.mul (a := 7) (b := (i : Int)) (by first | exact wrap_ok (by first | omega | (simp; omega)) (by first | omega | (simp; omega)) | rfl))) ?_
       refine TL.cons rfl (Step.bin (r := .int .i64 (b.getD (a + (i : Int)).toNat 0 % 128 * 128 ^ i)) rfl rfl (lt_ok rfl) rfl rfl (Bin.shl (k := .i64) (k' := .i64) (a := (b.getD (a + (i : Int)).toNat 0 % 128)) (b := (7 * (i : Int))) (by first | omega | (simp; omega)) (shl_var (by omega) (by omega) (by omega)))) ?_
       refine TL.cons rfl (Step.bin (r := .int .i64 (n + b.getD (a + (i : Int)).toNat 0 % 128 * 128 ^ i)) rfl rfl (lt_ok rfl) rfl rfl (Bin.or (k := .i64) (a := n) (b := (b.getD (a + (i : Int)).toNat 0 % 128 * 128 ^ i)) (or_add (by omega) (by omega) (by omega) (by omega) (by omega)))) ?_
       refine TL.cons rfl (Step.assign (p := (.one (.d (.int .i64 (n + b.getD (a + (i : Int)).toNat 0 % 128 * 128 ^ i))))) rfl rfl (lt_ok rfl) rfl) ?_
       refine TL.nil ?_
       refine T.seq ?_
       refine T.region ?_
       refine TL.cons rfl (Step.move (p := (.one (.d (.int .u8 (b.getD (a + (i : Int)).toNat 0))))) rfl rfl (lt_ok rfl) rfl) ?_
       refine TL.cons rfl (Step.bin rfl rfl (lt_ok rfl) rfl rfl (Bin.lss (k := .u8) (a := (b.getD (a + (i : Int)).toNat 0)) (b := 128))) ?_
       refine TL.nil ?_
       refine T.cond (b := decide ((b.getD (a + (i : Int)).toNat 0) < 128)) rfl (fun h11 => ?_) (fun h11 => ?_)
       ·
        replace h11 := of_decide_eq_true h11
        refine T.seq ?_
        refine T.seq ?_
        refine T.region ?_
        refine TL.cons rfl (Step.move (p := (.one (.d (.int .i64 (n + b.getD (a + (i : Int)).toNat 0 % 128 * 128 ^ i))))) rfl rfl (lt_ok rfl) rfl) ?_
        refine TL.cons rfl (Step.call (f := 155) (xs := [.tmp 53]) (ps := [(.one (.d (.int .i64 (n + b.getD (a + (i : Int)).toNat 0 % 128 * 128 ^ i))))]) false (g := .func 155) rfl rfl (lt_ok rfl) rfl (by kernel_rfl) rfl (.cons (.one (.d _)) .nil) (ok_impl_isNum (n + b.getD (a + (i : Int)).toNat 0 % 128 * 128 ^ i)) (.inr rfl) rfl (by simp) rfl) ?_
        refine TL.cons rfl (Step.not (b := (decide (0 ≤ (n + b.getD (a + (i : Int)).toNat 0 % 128 * 128 ^ i) ∧ (n + b.getD (a + (i : Int)).toNat 0 % 128 * 128 ^ i) ≤ 1152921504606846975))) rfl rfl (lt_ok rfl) rfl) ?_
        refine TL.nil ?_
        refine T.cond (b := !(decide (0 ≤ (n + b.getD (a + (i : Int)).toNat 0 % 128 * 128 ^ i) ∧ (n + b.getD (a + (i : Int)).toNat 0 % 128 * 128 ^ i) ≤ 1152921504606846975))) rfl (fun h12 => ?_) (fun h12 => ?_)
        ·
         replace h12 : (decide (0 ≤ (n + b.getD (a + (i : Int)).toNat 0 % 128 * 128 ^ i) ∧ (n + b.getD (a + (i : Int)).toNat 0 % 128 * 128 ^ i) ≤ 1152921504606846975)) = false := by simpa only [Bool.not_eq_true', Bool.not_eq_false'] using h12
         replace h12 := of_decide_eq_false h12
         refine T.seq ?_
         refine T.region ?_
         refine TL.cons rfl (Step.assign (p := (.one (.d (.int .i64 0)))) rfl rfl (lt_ok rfl) rfl) ?_
         refine TL.cons rfl (Step.assign (p := (.one (.d (.int .i64 0)))) rfl rfl (lt_ok rfl) rfl) ?_
         refine TL.cons rfl (Step.assign (p := (.one (.d (.int .i64 2)))) rfl rfl (lt_ok rfl) rfl) ?_
         refine TL.nil ?_
         refine T.ret ?_
         refine ⟨[(false, [.d (.int .i64 0)]), (false, [.d (.int .i64 0)]), (false, [.d (.int .i64 2)])], (.cons rfl (.cons rfl (.cons rfl .nil))), rfl, [], (RetC.rd' ?_ (RetC.rd' ?_ (RetC.rd' ?_ .nil)))⟩ <;> ((congr 1; first | (rw [getVar_out (by omega)]; done) | (rw [getVar_in (by omega), ← hx4]; first | (rw [gvGo_short (by omega) (by omega)]; done) | (rw [gvGo_var (by omega) (by omega) (by omega)]; done) | (rw [gvGo_done (by omega) (by omega) (by omega) (by omega) (by omega)]; done) | (rw [gvGo_big (by omega) (by omega) (by omega) (by omega) (by omega)]; done) | (rw [gvGo_end (by omega)]; done))))
        ·
         replace h12 : (decide (0 ≤ (n + b.getD (a + (i : Int)).toNat 0 % 128 * 128 ^ i) ∧ (n + b.getD (a + (i : Int)).toNat 0 % 128 * 128 ^ i) ≤ 1152921504606846975)) = true := by simpa only [Bool.not_eq_true', Bool.not_eq_false'] using h12
         replace h12 := of_decide_eq_true h12
         refine T.skip ?_
         refine T.seq ?_
         refine T.region ?_
         refine TL.cons rfl (Step.move (p := (.one (.d (.int .i64 (n + b.getD (a + (i : Int)).toNat 0 % 128 * 128 ^ i))))) rfl rfl (lt_ok rfl) rfl) ?_
         refine TL.cons rfl (Step.move (p := (.one (.d (.int .i64 a)))) rfl rfl (lt_ok rfl) rfl) ?_
         refine TL.cons rfl (Step.move (p := (.one (.d (.int .i64 (i : Int))))) rfl rfl (lt_ok rfl) rfl) ?_
         refine TL.cons rfl (Step.bin (r := .int .i64 (a + (i : Int))) rfl rfl (lt_ok rfl) rfl rfl (Bin.add (a := a) (b := (i : Int)) (by first | exact wrap_ok (by first | omega | (simp; omega)) (by first | omega | (simp; omega)) | rfl))) ?_
         refine TL.cons rfl (Step.bin (r := .int .i64 ((a + (i : Int)) + 1)) rfl rfl (lt_ok rfl) rfl rfl (Bin.add (a := (a + (i : Int))) (b := 1) (by first | exact wrap_ok (by first | omega | (simp; omega)) (by first | omega | (simp; omega)) | rfl))) ?_
         refine TL.cons rfl (Step.assign (p := (.one (.d (.int .i64 (n + b.getD (a + (i : Int)).toNat 0 % 128 * 128 ^ i))))) rfl rfl (lt_ok rfl) rfl) ?_
         refine TL.cons rfl (Step.assign (p := (.one (.d (.int .i64 ((a + (i : Int)) + 1))))) rfl rfl (lt_ok rfl) rfl) ?_
         refine TL.cons rfl (Step.assign (p := (.one (.d (.int .i64 0)))) rfl rfl (lt_ok rfl) rfl) ?_
         refine TL.nil ?_
         refine T.ret ?_
         refine ⟨[(false, [.d (.int .i64 (n + b.getD (a + (i : Int)).toNat 0 % 128 * 128 ^ i))]), (false, [.d (.int .i64 ((a + (i : Int)) + 1))]), (false, [.d (.int .i64 0)])], (.cons rfl (.cons rfl (.cons rfl .nil))), rfl, [], (RetC.rd' ?_ (RetC.rd' ?_ (RetC.rd' ?_ .nil)))⟩ <;> ((congr 1; first | (rw [getVar_out (by omega)]; done) | (rw [getVar_in (by omega), ← hx4]; first | (rw [gvGo_short (by omega) (by omega)]; done) | (rw [gvGo_var (by omega) (by omega) (by omega)]; done) | (rw [gvGo_done (by omega) (by omega) (by omega) (by omega) (by omega)]; done) | (rw [gvGo_big (by omega) (by omega) (by omega) (by omega) (by omega)]; done) | (rw [gvGo_end (by omega)]; done))))
       ·
        replace h11 := of_decide_eq_false h11
        refine T.skip ?_
        refine T.region ?_
        refine TL.cons rfl (Step.move (p := (.one (.d (.int .i64 (i : Int))))) rfl rfl (lt_ok rfl) rfl) ?_
        refine TL.cons rfl (Step.bin (r := .int .i64 ((i : Int) + 1)) rfl rfl (lt_ok rfl) rfl rfl (Bin.add (a := (i : Int)) (b := 1) (by first | exact wrap_ok (by first | omega | (simp; omega)) (by first | omega | (simp; omega)) | rfl))) ?_
        refine TL.cons rfl (Step.assign (p := (.one (.d (.int .i64 ((i : Int) + 1))))) rfl rfl (lt_ok rfl) rfl) ?_
        refine TL.nil ?_
        refine ⟨(i + 1, n + b.getD (a + (i : Int)).toNat 0 % 128 * 128 ^ i), by (try dsimp only); (refine ⟨by omega, by omega, by rw [Int.pow_succ]; omega, ?_⟩; exact (gvGo_next (n := n) (by omega) (by omega) (by omega) (by omega)).symm.trans hx4), by (dsimp only; omega), Env.le_mk ⟨rfl, rfl, ?_, ?_, trivial⟩ trivial trivial⟩ <;> (first | rfl | (refine congrArg (fun n => PV.one (.d (.int .i64 n))) ?_; first | rfl | omega | (simp; done)))
    ·
     refine TL.known 31 hb3 rfl ?_
     have hb3' := hb3
     replace hb3' := of_decide_eq_false hb3'
     refine TL.goff 31 rfl rfl (lt_ok rfl) rfl rfl rfl (lt_ok rfl) ?_
     refine TL.goff 31 rfl rfl (lt_ok rfl) rfl rfl rfl (lt_ok rfl) ?_
     refine TL.cons rfl (Step.pick (b := false) (p := (.one (.d (.bool false)))) rfl rfl (lt_ok rfl) rfl rfl) ?_
     refine TL.cons rfl (Step.move (p := (.one (.d (.bool false)))) rfl rfl (lt_ok rfl) rfl) ?_
     refine TL.gyes 35 rfl rfl (lt_ok rfl) rfl (Step.move (p := (.one (.d (.int .i64 (i : Int))))) rfl rfl (lt_ok rfl) rfl) ?_
     refine TL.gyes 35 rfl rfl (lt_ok rfl) rfl (Step.bin rfl rfl (lt_ok rfl) rfl rfl (Bin.eql (k := .i64) (a := (i : Int)) (b := 8))) ?_
     refine TL.gyes 35 rfl rfl (lt_ok rfl) rfl (Step.move (p := (.one (.d (.bool (decide ((i : Int) = 8)))))) rfl rfl (lt_ok rfl) rfl) ?_
     rcases Bool.eq_false_or_eq_true (decide ((i : Int) = 8)) with hb13 | hb13
     ·
      refine TL.known 38 hb13 rfl ?_
      have hb13' := hb13
      replace hb13' := of_decide_eq_true hb13'
      refine TL.gyes 38 rfl rfl (lt_ok rfl) rfl (Step.move (p := (.one (.d (.int .u8 (b.getD (a + (i : Int)).toNat 0))))) rfl rfl (lt_ok rfl) rfl) ?_
      refine TL.gyes 38 rfl rfl (lt_ok rfl) rfl (Step.bin rfl rfl (lt_ok rfl) rfl rfl (Bin.geq (k := .u8) (a := (b.getD (a + (i : Int)).toNat 0)) (b := 128))) ?_
      refine TL.gyes 35 rfl rfl (lt_ok rfl) rfl (Step.pick (b := true) (p := (.one (.d (.bool (decide (128 ≤ (b.getD (a + (i : Int)).toNat 0))))))) rfl rfl (lt_ok rfl) rfl rfl) ?_
      refine TL.cons rfl (Step.pick (b := false) (p := (.one (.d (.bool (decide (128 ≤ (b.getD (a + (i : Int)).toNat 0))))))) rfl rfl (lt_ok rfl) rfl rfl) ?_
      refine TL.nil ?_
      refine T.cond (b := decide (128 ≤ (b.getD (a + (i : Int)).toNat 0))) rfl (fun h14 => ?_) (fun h14 => ?_)
      ·
       replace h14 := of_decide_eq_true h14
       refine T.seq ?_
       refine T.region ?_
       refine TL.cons rfl (Step.assign (p := (.one (.d (.int .i64 0)))) rfl rfl (lt_ok rfl) rfl) ?_
       refine TL.cons rfl (Step.assign (p := (.one (.d (.int .i64 0)))) rfl rfl (lt_ok rfl) rfl) ?_
       refine TL.cons rfl (Step.assign (p := (.one (.d (.int .i64 2)))) rfl rfl (lt_ok rfl) rfl) ?_
       refine TL.nil ?_
       refine T.ret ?_
       refine ⟨[(false, [.d (.int .i64 0)]), (false, [.d (.int .i64 0)]), (false, [.d (.int .i64 2)])], (.cons rfl (.cons rfl (.cons rfl .nil))), rfl, [], (RetC.rd' ?_ (RetC.rd' ?_ (RetC.rd' ?_ .nil)))⟩ <;> ((congr 1; first | (rw [getVar_out (by omega)]; done) | (rw [getVar_in (by omega), ← hx4]; first | (rw [gvGo_short (by omega) (by omega)]; done) | (rw [gvGo_var (by omega) (by omega) (by omega)]; done) | (rw [gvGo_done (by omega) (by omega) (by omega) (by omega) (by omega)]; done) | (rw [gvGo_big (by omega) (by omega) (by omega) (by omega) (by omega)]; done) | (rw [gvGo_end (by omega)]; done))))
      ·
       replace h14 := of_decide_eq_false h14
       refine T.skip ?_
       refine T.seq ?_
       refine T.region ?_
       refine TL.cons rfl (Step.move (p := (.one (.d (.int .i64 n)))) rfl rfl (lt_ok rfl) rfl) ?_
       refine TL.cons rfl (Step.move (p := (.one (.d (.int .u8 (b.getD (a + (i : Int)).toNat 0))))) rfl rfl (lt_ok rfl) rfl) ?_
       refine TL.cons rfl (Step.bin (r := .int .u8 (b.getD (a + (i : Int)).toNat 0 % 128)) rfl rfl (lt_ok rfl) rfl rfl (Bin.and (k := .u8) (a := (b.getD (a + (i : Int)).toNat 0)) (b := 127) (and127 hu_.1 hu_.2))) ?_
       refine TL.cons rfl (Step.conv (c := (b.getD (a + (i : Int)).toNat 0 % 128)) rfl rfl (lt_ok rfl) (by kernel_rfl) (by kernel_rfl) rfl (wrap_ok (by first | omega | (simp; omega)) (by first | omega | (simp; omega)))) ?_
       refine TL.cons rfl (Step.move (p := (.one (.d (.int .i64 (i : Int))))) rfl rfl (lt_ok rfl) rfl) ?_
       refine TL.cons rfl (Step.bin (r := .int .i64 (7 * (i : Int))) rfl rfl (lt_ok rfl) rfl rfl (Bin.mul (a := 7) (b := (i : Int)) (by first | exact wrap_ok (by first | omega | (simp; omega)) (by first | omega | (simp; omega)) | rfl))) ?_
       refine TL.cons rfl (Step.bin (r := .int .i64 (b.getD (a + (i : Int)).toNat 0 % 128 * 128 ^ i)) rfl rfl (lt_ok rfl) rfl rfl (Bin.shl (k := .i64) (k' := .i64) (a := (b.getD (a + (i : Int)).toNat 0 % 128)) (b := (7 * (i : Int))) (by first | omega | (simp; omega)) (shl_var (by omega) (by omega) (by omega)))) ?_
       refine TL.cons rfl (Step.bin (r := .int .i64 (n + b.getD (a + (i : Int)).toNat 0 % 128 * 128 ^ i)) rfl rfl (lt_ok rfl) rfl rfl (Bin.or (k := .i64) (a := n) (b := (b.getD (a + (i : Int)).toNat 0 % 128 * 128 ^ i)) (or_add (by omega) (by omega) (by omega) (by omega) (by omega)))) ?_
       refine TL.cons rfl (Step.assign (p := (.one (.d (.int .i64 (n + b.getD (a + (i : Int)).toNat 0 % 128 * 128 ^ i))))) rfl rfl (lt_ok rfl) rfl) ?_
       refine TL.nil ?_
       refine T.seq ?_
       refine T.region ?_
       refine TL.cons rfl (Step.move (p := (.one (.d (.int .u8 (b.getD (a + (i : Int)).toNat 0))))) rfl rfl (lt_ok rfl) rfl) ?_
       refine TL.cons rfl (Step.bin rfl rfl (lt_ok rfl) rfl rfl (Bin.lss (k := .u8) (a := (b.getD (a + (i : Int)).toNat 0)) (b := 128))) ?_
       refine TL.nil ?_
       refine T.cond (b := decide ((b.getD (a + (i : Int)).toNat 0) < 128)) rfl (fun h15 => ?_) (fun h15 => ?_)
       ·
        replace h15 := of_decide_eq_true h15
        refine T.seq ?_
        refine T.seq ?_
        refine T.region ?_
        refine TL.cons rfl (Step.move (p := (.one (.d (.int .i64 (n + b.getD (a + (i : Int)).toNat 0 % 128 * 128 ^ i))))) rfl rfl (lt_ok rfl) rfl) ?_
        refine TL.cons rfl (Step.call (f := 155) (xs := [.tmp 53]) (ps := [(.one (.d (.int .i64 (n + b.getD (a + (i : Int)).toNat 0 % 128 * 128 ^ i))))]) false (g := .func 155) rfl rfl (lt_ok rfl) rfl (by kernel_rfl) rfl (.cons (.one (.d _)) .nil) (ok_impl_isNum (n + b.getD (a + (i : Int)).toNat 0 % 128 * 128 ^ i)) (.inr rfl) rfl (by simp) rfl) ?_
        refine TL.cons rfl (Step.not (b := (decide (0 ≤ (n + b.getD (a + (i : Int)).toNat 0 % 128 * 128 ^ i) ∧ (n + b.getD (a + (i : Int)).toNat 0 % 128 * 128 ^ i) ≤ 1152921504606846975))) rfl rfl (lt_ok rfl) rfl) ?_
        refine TL.nil ?_
        refine T.cond (b := !(decide (0 ≤ (n + b.getD (a + (i : Int)).toNat 0 % 128 * 128 ^ i) ∧ (n + b.getD (a + (i : Int)).toNat 0 % 128 * 128 ^ i) ≤ 1152921504606846975))) rfl (fun h16 => ?_) (fun h16 => ?_)
        ·
         replace h16 : (decide (0 ≤ (n + b.getD (a + (i : Int)).toNat 0 % 128 * 128 ^ i) ∧ (n + b.getD (a + (i : Int)).toNat 0 % 128 * 128 ^ i) ≤ 1152921504606846975)) = false := by simpa only [Bool.not_eq_true', Bool.not_eq_false'] using h16
         replace h16 := of_decide_eq_false h16
         refine T.seq ?_
         refine T.region ?_
         refine TL.cons rfl (Step.assign (p := (.one (.d (.int .i64 0)))) rfl rfl (lt_ok rfl) rfl) ?_
         refine TL.cons rfl (Step.assign (p := (.one (.d (.int .i64 0)))) rfl rfl (lt_ok rfl) rfl) ?_
         refine TL.cons rfl (Step.assign (p := (.one (.d (.int .i64 2)))) rfl rfl (lt_ok rfl) rfl) ?_
         refine TL.nil ?_
         refine T.ret ?_
         refine ⟨[(false, [.d (.int .i64 0)]), (false, [.d (.int .i64 0)]), (false, [.d (.int .i64 2)])], (.cons rfl (.cons rfl (.cons rfl .nil))), rfl, [], (RetC.rd' ?_ (RetC.rd' ?_ (RetC.rd' ?_ .nil)))⟩ <;> ((congr 1; first | (rw [getVar_out (by omega)]; done) | (rw [getVar_in (by omega), ← hx4]; first | (rw [gvGo_short (by omega) (by omega)]; done) | (rw [gvGo_var (by omega) (by omega) (by omega)]; done) | (rw [gvGo_done (by omega) (by omega) (by omega) (by omega) (by omega)]; done) | (rw [gvGo_big (by omega) (by omega) (by omega) (by omega) (by omega)]; done) | (rw [gvGo_end (by omega)]; done))))
        ·
         replace h16 : (decide (0 ≤ (n + b.getD (a + (i : Int)).toNat 0 % 128 * 128 ^ i) ∧ (n + b.getD (a + (i : Int)).toNat 0 % 128 * 128 ^ i) ≤ 1152921504606846975)) = true := by simpa only [Bool.not_eq_true', Bool.not_eq_false'] using h16
         replace h16 := of_decide_eq_true h16
         refine T.skip ?_
         refine T.seq ?_
         refine T.region ?_
         refine TL.cons rfl (Step.move (p := (.one (.d (.int .i64 (n + b.getD (a + (i : Int)).toNat 0 % 128 * 128 ^ i))))) rfl rfl (lt_ok rfl) rfl) ?_
         refine TL.cons rfl (Step.move (p := (.one (.d (.int .i64 a)))) rfl rfl (lt_ok rfl) rfl) ?_
         refine TL.cons rfl (Step.move (p := (.one (.d (.int .i64 (i : Int))))) rfl rfl (lt_ok rfl) rfl) ?_
         refine TL.cons rfl (Step.bin (r := .int .i64 (a + (i : Int))) rfl rfl (lt_ok rfl) rfl rfl (Bin.add (a := a) (b := (i : Int)) (by first | exact wrap_ok (by first | omega | (simp; omega)) (by first | omega | (simp; omega)) | rfl))) ?_
         refine TL.cons rfl (Step.bin (r := .int .i64 ((a + (i : Int)) + 1)) rfl rfl (lt_ok rfl) rfl rfl (Bin.add (a := (a + (i : Int))) (b := 1) (by first | exact wrap_ok (by first | omega | (simp; omega)) (by first | omega | (simp; omega)) | rfl))) ?_
         refine TL.cons rfl (Step.assign (p := (.one (.d (.int .i64 (n + b.getD (a + (i : Int)).toNat 0 % 128 * 128 ^ i))))) rfl rfl (lt_ok rfl) rfl) ?_
         refine TL.cons rfl (Step.assign (p := (.one (.d (.int .i64 ((a + (i : Int)) + 1))))) rfl rfl (lt_ok rfl) rfl) ?_
         refine TL.cons rfl (Step.assign (p := (.one (.d (.int .i64 0)))) rfl rfl (lt_ok rfl) rfl) ?_
         refine TL.nil ?_
         refine T.ret ?_
         refine ⟨[(false, [.d (.int .i64 (n + b.getD (a + (i : Int)).toNat 0 % 128 * 128 ^ i))]), (false, [.d (.int .i64 ((a + (i : Int)) + 1))]), (false, [.d (.int .i64 0)])], (.cons rfl (.cons rfl (.cons rfl .nil))), rfl, [], (RetC.rd' ?_ (RetC.rd' ?_ (RetC.rd' ?_ .nil)))⟩ <;> ((congr 1; first | (rw [getVar_out (by omega)]; done) | (rw [getVar_in (by omega), ← hx4]; first | (rw [gvGo_short (by omega) (by omega)]; done) | (rw [gvGo_var (by omega) (by omega) (by omega)]; done) | (rw [gvGo_done (by omega) (by omega) (by omega) (by omega) (by omega)]; done) | (rw [gvGo_big (by omega) (by omega) (by omega) (by omega) (by omega)]; done) | (rw [gvGo_end (by omega)]; done))))
       ·
        replace h15 := of_decide_eq_false h15
        refine T.skip ?_
        refine T.region ?_
        refine TL.cons rfl (Step.move (p := (.one (.d (.int .i64 (i : Int))))) rfl rfl (lt_ok rfl) rfl) ?_
        refine TL.cons rfl (Step.bin (r := .int .i64 ((i : Int) + 1)) rfl rfl (lt_ok rfl) rfl rfl (Bin.add (a := (i : Int)) (b := 1) (by first | exact wrap_ok (by first | omega | (simp; omega)) (by first | omega | (simp; omega)) | rfl))) ?_
        refine TL.cons rfl (Step.assign (p := (.one (.d (.int .i64 ((i : Int) + 1))))) rfl rfl (lt_ok rfl) rfl) ?_
        refine TL.nil ?_
        refine ⟨(i + 1, n + b.getD (a + (i : Int)).toNat 0 % 128 * 128 ^ i), by (try dsimp only); (refine ⟨by omega, by omega, by rw [Int.pow_succ]; omega, ?_⟩; exact (gvGo_next (n := n) (by omega) (by omega) (by omega) (by omega)).symm.trans hx4), by (dsimp only; omega), Env.le_mk ⟨rfl, rfl, ?_, ?_, trivial⟩ trivial trivial⟩ <;> (first | rfl | (refine congrArg (fun n => PV.one (.d (.int .i64 n))) ?_; first | rfl | omega | (simp; done)))
     ·
      refine TL.known 38 hb13 rfl ?_
      have hb13' := hb13
      replace hb13' := of_decide_eq_false hb13'
      refine TL.goff 38 rfl rfl (lt_ok rfl) rfl rfl rfl (lt_ok rfl) ?_
      refine TL.goff 38 rfl rfl (lt_ok rfl) rfl rfl rfl (lt_ok rfl) ?_
      refine TL.gyes 35 rfl rfl (lt_ok rfl) rfl (Step.pick (b := false) (p := (.one (.d (.bool false)))) rfl rfl (lt_ok rfl) rfl rfl) ?_
      refine TL.cons rfl (Step.pick (b := false) (p := (.one (.d (.bool false)))) rfl rfl (lt_ok rfl) rfl rfl) ?_
      refine TL.nil ?_
      refine T.cond (b := false) rfl (fun h17_ => absurd h17_ (by simp)) (fun h17_ => ?_)
      refine T.skip ?_
      refine T.seq ?_
      refine T.region ?_
      refine TL.cons rfl (Step.move (p := (.one (.d (.int .i64 n)))) rfl rfl (lt_ok rfl) rfl) ?_
      refine TL.cons rfl (Step.move (p := (.one (.d (.int .u8 (b.getD (a + (i : Int)).toNat 0))))) rfl rfl (lt_ok rfl) rfl) ?_
      refine TL.cons rfl (Step.bin (r := .int .u8 (b.getD (a + (i : Int)).toNat 0 % 128)) rfl rfl (lt_ok rfl) rfl rfl (Bin.and (k := .u8) (a := (b.getD (a + (i : Int)).toNat 0)) (b := 127) (and127 hu_.1 hu_.2))) ?_
      refine TL.cons rfl (Step.conv (c := (b.getD (a + (i : Int)).toNat 0 % 128)) rfl rfl (lt_ok rfl) (by kernel_rfl) (by kernel_rfl) rfl (wrap_ok (by first | omega | (simp; omega)) (by first | omega | (simp; omega)))) ?_
      refine TL.cons rfl (Step.move (p := (.one (.d (.int .i64 (i : Int))))) rfl rfl (lt_ok rfl) rfl) ?_
      refine TL.cons rfl (Step.bin (r := .int .i64 (7 * (i : Int))) rfl rfl (lt_ok rfl) rfl rfl (Bin.mul (a := 7) (b := (i : Int)) (by first | exact wrap_ok (by first | omega | (simp; omega)) (by first | omega | (simp; omega)) | rfl))) ?_
      refine TL.cons rfl (Step.bin (r := .int .i64 (b.getD (a + (i : Int)).toNat 0 % 128 * 128 ^ i)) rfl rfl (lt_ok rfl) rfl rfl (Bin.shl (k := .i64) (k' := .i64) (a := (b.getD (a + (i : Int)).toNat 0 % 128)) (b := (7 * (i : Int))) (by first | omega | (simp; omega)) (shl_var (by omega) (by omega) (by omega)))) ?_
      refine TL.cons rfl (Step.bin (r := .int .i64 (n + b.getD (a + (i : Int)).toNat 0 % 128 * 128 ^ i)) rfl rfl (lt_ok rfl) rfl rfl (Bin.or (k := .i64) (a := n) (b := (b.getD (a + (i : Int)).toNat 0 % 128 * 128 ^ i)) (or_add (by omega) (by omega) (by omega) (by omega) (by omega)))) ?_
      refine TL.cons rfl (Step.assign (p := (.one (.d (.int .i64 (n + b.getD (a + (i : Int)).toNat 0 % 128 * 128 ^ i))))) rfl rfl (lt_ok rfl) rfl) ?_
      refine TL.nil ?_
      refine T.seq ?_
      refine T.region ?_
      refine TL.cons rfl (Step.move (p := (.one (.d (.int .u8 (b.getD (a + (i : Int)).toNat 0))))) rfl rfl (lt_ok rfl) rfl) ?_
      refine TL.cons rfl (Step.bin rfl rfl (lt_ok rfl) rfl rfl (Bin.lss (k := .u8) (a := (b.getD (a + (i : Int)).toNat 0)) (b := 128))) ?_
      refine TL.nil ?_
      refine T.cond (b := decide ((b.getD (a + (i : Int)).toNat 0) < 128)) rfl (fun h18 => ?_) (fun h18 => ?_)
      ·
       replace h18 := of_decide_eq_true h18
       refine T.seq ?_
       refine T.seq ?_
       refine T.region ?_
       refine TL.cons rfl (Step.move (p := (.one (.d (.int .i64 (n + b.getD (a + (i : Int)).toNat 0 % 128 * 128 ^ i))))) rfl rfl (lt_ok rfl) rfl) ?_
       refine TL.cons rfl (Step.call (f := 155) (xs := [.tmp 53]) (ps := [(.one (.d (.int .i64 (n + b.getD (a + (i : Int)).toNat 0 % 128 * 128 ^ i))))]) false (g := .func 155) rfl rfl (lt_ok rfl) rfl (by kernel_rfl) rfl (.cons (.one (.d _)) .nil) (ok_impl_isNum (n + b.getD (a + (i : Int)).toNat 0 % 128 * 128 ^ i)) (.inr rfl) rfl (by simp) rfl) ?_
       refine TL.cons rfl (Step.not (b := (decide (0 ≤ (n + b.getD (a + (i : Int)).toNat 0 % 128 * 128 ^ i) ∧ (n + b.getD (a + (i : Int)).toNat 0 % 128 * 128 ^ i) ≤ 1152921504606846975))) rfl rfl (lt_ok rfl) rfl) ?_
       refine TL.nil ?_
       refine T.cond (b := !(decide (0 ≤ (n + b.getD (a + (i : Int)).toNat 0 % 128 * 128 ^ i) ∧ (n + b.getD (a + (i : Int)).toNat 0 % 128 * 128 ^ i) ≤ 1152921504606846975))) rfl (fun h19 => ?_) (fun h19 => ?_)
       ·
        replace h19 : (decide (0 ≤ (n + b.getD (a + (i : Int)).toNat 0 % 128 * 128 ^ i) ∧ (n + b.getD (a + (i : Int)).toNat 0 % 128 * 128 ^ i) ≤ 1152921504606846975)) = false := by simpa only [Bool.not_eq_true', Bool.not_eq_false'] using h19
        replace h19 := of_decide_eq_false h19
        refine T.seq ?_
        refine T.region ?_
        refine TL.cons rfl (Step.assign (p := (.one (.d (.int .i64 0)))) rfl rfl (lt_ok rfl) rfl) ?_
        refine TL.cons rfl (Step.assign (p := (.one (.d (.int .i64 0)))) rfl rfl (lt_ok rfl) rfl) ?_
        refine TL.cons rfl (Step.assign (p := (.one (.d (.int .i64 2)))) rfl rfl (lt_ok rfl) rfl) ?_
        refine TL.nil ?_
        refine T.ret ?_
        refine ⟨[(false, [.d (.int .i64 0)]), (false, [.d (.int .i64 0)]), (false, [.d (.int .i64 2)])], (.cons rfl (.cons rfl (.cons rfl .nil))), rfl, [], (RetC.rd' ?_ (RetC.rd' ?_ (RetC.rd' ?_ .nil)))⟩ <;> ((congr 1; first | (rw [getVar_out (by omega)]; done) | (rw [getVar_in (by omega), ← hx4]; first | (rw [gvGo_short (by omega) (by omega)]; done) | (rw [gvGo_var (by omega) (by omega) (by omega)]; done) | (rw [gvGo_done (by omega) (by omega) (by omega) (by omega) (by omega)]; done) | (rw [gvGo_big (by omega) (by omega) (by omega) (by omega) (by omega)]; done) | (rw [gvGo_end (by omega)]; done))))
       ·
        replace h19 : (decide (0 ≤ (n + b.getD (a + (i : Int)).toNat 0 % 128 * 128 ^ i) ∧ (n + b.getD (a + (i : Int)).toNat 0 % 128 * 128 ^ i) ≤ 1152921504606846975)) = true := by simpa only [Bool.not_eq_true', Bool.not_eq_false'] using h19
        replace h19 := of_decide_eq_true h19
        refine T.skip ?_
        refine T.seq ?_
        refine T.region ?_
        refine TL.cons rfl (Step.move (p := (.one (.d (.int .i64 (n + b.getD (a + (i : Int)).toNat 0 % 128 * 128 ^ i))))) rfl rfl (lt_ok rfl) rfl) ?_
        refine TL.cons rfl (Step.move (p := (.one (.d (.int .i64 a)))) rfl rfl (lt_ok rfl) rfl) ?_
        refine TL.cons rfl (Step.move (p := (.one (.d (.int .i64 (i : Int))))) rfl rfl (lt_ok rfl) rfl) ?_
        refine TL.cons rfl (Step.bin (r := .int .i64 (a + (i : Int))) rfl rfl (lt_ok rfl) rfl rfl (Bin.add (a := a) (b := (i : Int)) (by first | exact wrap_ok (by first | omega | (simp; omega)) (by first | omega | (simp; omega)) | rfl))) ?_
        refine TL.cons rfl (Step.bin (r := .int .i64 ((a + (i : Int)) + 1)) rfl rfl (lt_ok rfl) rfl rfl (Bin.add (a := (a + (i : Int))) (b := 1) (by first | exact wrap_ok (by first | omega | (simp; omega)) (by first | omega | (simp; omega)) | rfl))) ?_
        refine TL.cons rfl (Step.assign (p := (.one (.d (.int .i64 (n + b.getD (a + (i : Int)).toNat 0 % 128 * 128 ^ i))))) rfl rfl (lt_ok rfl) rfl) ?_
        refine TL.cons rfl (Step.assign (p := (.one (.d (.int .i64 ((a + (i : Int)) + 1))))) rfl rfl (lt_ok rfl) rfl) ?_
        refine TL.cons rfl (Step.assign (p := (.one (.d (.int .i64 0)))) rfl rfl (lt_ok rfl) rfl) ?_
        refine TL.nil ?_
        refine T.ret ?_
        refine ⟨[(false, [.d (.int .i64 (n + b.getD (a + (i : Int)).toNat 0 % 128 * 128 ^ i))]), (false, [.d (.int .i64 ((a + (i : Int)) + 1))]), (false, [.d (.int .i64 0)])], (.cons rfl (.cons rfl (.cons rfl .nil))), rfl, [], (RetC.rd' ?_ (RetC.rd' ?_ (RetC.rd' ?_ .nil)))⟩ <;> ((congr 1; first | (rw [getVar_out (by omega)]; done) | (rw [getVar_in (by omega), ← hx4]; first | (rw [gvGo_short (by omega) (by omega)]; done) | (rw [gvGo_var (by omega) (by omega) (by omega)]; done) | (rw [gvGo_done (by omega) (by omega) (by omega) (by omega) (by omega)]; done) | (rw [gvGo_big (by omega) (by omega) (by omega) (by omega) (by omega)]; done) | (rw [gvGo_end (by omega)]; done))))
      ·
       replace h18 := of_decide_eq_false h18
       refine T.skip ?_
       refine T.region ?_
       refine TL.cons rfl (Step.move (p := (.one (.d (.int .i64 (i : Int))))) rfl rfl (lt_ok rfl) rfl) ?_
       refine TL.cons rfl (Step.bin (r := .int .i64 ((i : Int) + 1)) rfl rfl (lt_ok rfl) rfl rfl (Bin.add (a := (i : Int)) (b := 1) (by first | exact wrap_ok (by first | omega | (simp; omega)) (by first | omega | (simp; omega)) | rfl))) ?_
       refine TL.cons rfl (Step.assign (p := (.one (.d (.int .i64 ((i : Int) + 1))))) rfl rfl (lt_ok rfl) rfl) ?_
       refine TL.nil ?_
       refine ⟨(i + 1, n + b.getD (a + (i : Int)).toNat 0 % 128 * 128 ^ i), by (try dsimp only); (refine ⟨by omega, by omega, by rw [Int.pow_succ]; omega, ?_⟩; exact (gvGo_next (n := n) (by omega) (by omega) (by omega) (by omega)).symm.trans hx4), by (dsimp only; omega), Env.le_mk ⟨rfl, rfl, ?_, ?_, trivial⟩ trivial trivial⟩ <;> (first | rfl | (refine congrArg (fun n => PV.one (.d (.int .i64 n))) ?_; first | rfl | omega | (simp; done)))
theorem ok_impl_reader__num (b : List Int) (s : SRS) (h0_ : U8s b) (h1_ : b.length ≤ 1048576) : BX Try.prog 136 [.bx] 144 [.rd (.ints .u8 b), .rd (.int .i64 s.f0), .rd (.int .i64 s.f1)] [.rd (.ints .u8 b), .rd (.int .i64 (rdNum b s).1.f0), .rd (.int .i64 (rdNum b s).1.f1)] [(false, [.rd (.int .i64 (rdNum b s).2)])] := by
 refine BX.intro Try.func136 rfl 33 rfl (le_ok rfl) (le_ok rfl) fun w Z IX pin hp => ?_
 refine T.seq ?_
 refine T.region ?_
 refine TL.cons rfl (Step.assign (p := (.one (.d (.int .i64 0)))) rfl rfl (lt_ok rfl) rfl) ?_
 refine TL.nil ?_
 refine T.seq ?_
 refine T.seq ?_
 refine T.region ?_
 refine TL.cons rfl (Step.move (p := (.one (.ptr 800 0))) rfl rfl (lt_ok rfl) rfl) ?_
 refine TL.cons rfl (Step.nilCheck rfl rfl (lt_ok rfl) rfl) ?_
 refine TL.cons rfl (Step.fieldAddr (q := 0) (off := 2) (n := 1) (one := true) rfl rfl (lt_ok rfl) (by kernel_rfl) (Nat.succ_ne_zero _) rfl) ?_
 refine TL.cons rfl (Step.load_box (c := .d (.int .i64 s.f1)) rfl rfl (lt_ok rfl) (by kernel_rfl) rfl rfl rfl) ?_
 refine TL.cons rfl (Step.bin rfl rfl (lt_ok rfl) rfl rfl (Bin.neq (k := .i64) (a := s.f1) (b := 0))) ?_
 refine TL.nil ?_
 refine T.cond (b := decide (s.f1 ≠ 0)) rfl (fun h1 => ?_) (fun h1 => ?_)
 ·
  replace h1 := of_decide_eq_true h1
  refine T.seq ?_
  refine T.region ?_
  refine TL.cons rfl (Step.assign (p := (.one (.d (.int .i64 0)))) rfl rfl (lt_ok rfl) rfl) ?_
  refine TL.nil ?_
  refine T.ret ?_
  refine ⟨[.d (.ints .u8 b), .d (.int .i64 s.f0), .d (.int .i64 s.f1)], [(false, [.d (.int .i64 0)])], rfl, rfl, (.cons rfl .nil), rfl, [], (RetC.rd' rfl (RetC.rd' ?_ (RetC.rd' ?_ (RetC.rd' ?_ .nil))))⟩ <;> (first | rfl | (congr 1; unfold rdNum; first | (rw [if_pos (by omega)]; done) | (rw [if_neg (by omega)]; done)) | (simp only [D.size]; unfold rdNum; rw [if_neg (by omega)]; rfl))
 ·
  replace h1 := of_decide_eq_false h1
  refine T.skip ?_
  refine T.seq ?_
  have nn2 := @getVar_bd b (by assumption) s.f0
  refine T.draw [⟨12, (.one (.ptr 800 0)), []⟩, ⟨13, (.one (.ptr 800 0)), []⟩, ⟨14, (.one (.ptr 800 0)), []⟩, ⟨15, (.one (.d (.ints .u8 b))), []⟩, ⟨16, (.one (.ptr 800 0)), []⟩, ⟨17, (.one (.ptr 800 0)), []⟩, ⟨18, (.one (.ptr 800 1)), []⟩, ⟨19, (.one (.d (.int .i64 s.f0))), []⟩, ⟨20, (.tup [(false, [.d (.int .i64 (getVar b s.f0).1)]), (false, [.d (.int .i64 (getVar b s.f0).2.1)]), (false, [.d (.int .i64 (getVar b s.f0).2.2)])]), []⟩, ⟨11, (.tup [(false, [.d (.int .i64 (getVar b s.f0).1)]), (false, [.d (.int .i64 (getVar b s.f0).2.1)]), (false, [.d (.int .i64 (getVar b s.f0).2.2)])]), []⟩, ⟨21, (.one (.d (.int .i64 (getVar b s.f0).1))), []⟩, ⟨22, (.one (.d (.int .i64 (getVar b s.f0).2.1))), []⟩, ⟨23, (.one (.d (.int .i64 (getVar b s.f0).2.2))), []⟩, ⟨3, (.one (.d (.int .i64 (getVar b s.f0).1))), []⟩, ⟨4, (.one (.d (.int .i64 (getVar b s.f0).2.1))), []⟩, ⟨5, (.one (.d (.int .i64 (getVar b s.f0).2.2))), []⟩] (by kernel_rfl) (by kernel_rfl) ?_ ?_
  ·
   refine .cons (fun E hA_ => by have g0 := hA_.get 0 (by decide); exact OpStep.plain rfl (Step.move (p := (.one (.ptr 800 0))) (t := 12) rfl rfl (by exact lt_ok rfl) (show Env.ev E (.tmp 0) = _ from g0.trans rfl))) ?_
   refine .cons (fun E hA_ => by have g12 := hA_.get 12 (by decide); exact OpStep.plain rfl (Step.nilCheck (t := 13) rfl rfl (by exact lt_ok rfl) (show Env.ev E (.tmp 12) = _ from g12.trans rfl))) ?_
   refine .cons (fun E hA_ => by have g13 := hA_.get 13 (by decide); exact OpStep.plain rfl (Step.fieldAddr (q := 0) (off := 0) (n := 1) (one := true) (t := 14) rfl rfl (by exact lt_ok rfl) (by kernel_rfl) (Nat.succ_ne_zero _) (show Env.ev E (.tmp 13) = _ from g13.trans rfl))) ?_
   refine .cons (fun E hA_ => by have g14 := hA_.get 14 (by decide); exact OpStep.plain rfl (Step.load_box (c := .d (.ints .u8 b)) (t := 15) rfl rfl (by exact lt_ok rfl) (by kernel_rfl) (show Env.ev E (.tmp 14) = _ from g14.trans rfl) (by exact hA_.box rfl) rfl)) ?_
   refine .cons (fun E hA_ => by have g0 := hA_.get 0 (by decide); exact OpStep.plain rfl (Step.move (p := (.one (.ptr 800 0))) (t := 16) rfl rfl (by exact lt_ok rfl) (show Env.ev E (.tmp 0) = _ from g0.trans rfl))) ?_
   refine .cons (fun E hA_ => by have g16 := hA_.get 16 (by decide); exact OpStep.plain rfl (Step.nilCheck (t := 17) rfl rfl (by exact lt_ok rfl) (show Env.ev E (.tmp 16) = _ from g16.trans rfl))) ?_
   refine .cons (fun E hA_ => by have g17 := hA_.get 17 (by decide); exact OpStep.plain rfl (Step.fieldAddr (q := 0) (off := 1) (n := 1) (one := true) (t := 18) rfl rfl (by exact lt_ok rfl) (by kernel_rfl) (Nat.succ_ne_zero _) (show Env.ev E (.tmp 17) = _ from g17.trans rfl))) ?_
   refine .cons (fun E hA_ => by have g18 := hA_.get 18 (by decide); exact OpStep.plain rfl (Step.load_box (c := .d (.int .i64 s.f0)) (t := 19) rfl rfl (by exact lt_ok rfl) (by kernel_rfl) (show Env.ev E (.tmp 18) = _ from g18.trans rfl) (by exact hA_.box rfl) rfl)) ?_
   refine .cons (fun E hA_ => by have g15 := hA_.get 15 (by decide); have g19 := hA_.get 19 (by decide); exact OpStep.plain rfl (Step.call (f := 179) (xs := [.tmp 15, .tmp 19]) (ps := [(.one (.d (.ints .u8 b))), (.one (.d (.int .i64 s.f0)))]) false (g := .func 179) (t := 20) rfl rfl (by exact lt_ok rfl) rfl (by kernel_rfl) (evs_cons (show Env.ev E (.tmp 15) = _ from g15.trans rfl) (evs_cons (show Env.ev E (.tmp 19) = _ from g19.trans rfl) (rfl))) (.cons (.one (.d _)) (.cons (.one (.d _)) .nil)) (ok_impl_GetVar b s.f0 (by assumption) (by first | omega | assumption | (simp only [List.length_append] at *; omega))) (.inr rfl) (At.freshRows hA_ rfl) (fun x hx => by have := hp x hx; omega) rfl)) ?_
   refine .cons (fun E hA_ => by have g20 := hA_.get 20 (by decide); exact OpStep.plain rfl (Step.move (p := (.tup [(false, [.d (.int .i64 (getVar b s.f0).1)]), (false, [.d (.int .i64 (getVar b s.f0).2.1)]), (false, [.d (.int .i64 (getVar b s.f0).2.2)])])) (t := 11) rfl rfl (by exact lt_ok rfl) (show Env.ev E (.tmp 20) = _ from g20.trans rfl))) ?_
   refine .cons (fun E hA_ => by have g11 := hA_.get 11 (by decide); exact OpStep.plain rfl (Step.extract (p := (.one (.d (.int .i64 (getVar b s.f0).1)))) (t := 21) rfl rfl (by exact lt_ok rfl) (show Env.ev E (.tmp 11) = _ from g11.trans rfl) rfl)) ?_
   refine .cons (fun E hA_ => by have g11 := hA_.get 11 (by decide); exact OpStep.plain rfl (Step.extract (p := (.one (.d (.int .i64 (getVar b s.f0).2.1)))) (t := 22) rfl rfl (by exact lt_ok rfl) (show Env.ev E (.tmp 11) = _ from g11.trans rfl) rfl)) ?_
   refine .cons (fun E hA_ => by have g11 := hA_.get 11 (by decide); exact OpStep.plain rfl (Step.extract (p := (.one (.d (.int .i64 (getVar b s.f0).2.2)))) (t := 23) rfl rfl (by exact lt_ok rfl) (show Env.ev E (.tmp 11) = _ from g11.trans rfl) rfl)) ?_
   refine .cons (fun E hA_ => by have g21 := hA_.get 21 (by decide); exact OpStep.plain rfl (Step.assign (p := (.one (.d (.int .i64 (getVar b s.f0).1)))) (t := 3) rfl rfl (by exact lt_ok rfl) (show Env.ev E (.tmp 21) = _ from g21.trans rfl))) ?_
   refine .cons (fun E hA_ => by have g22 := hA_.get 22 (by decide); exact OpStep.plain rfl (Step.assign (p := (.one (.d (.int .i64 (getVar b s.f0).2.1)))) (t := 4) rfl rfl (by exact lt_ok rfl) (show Env.ev E (.tmp 22) = _ from g22.trans rfl))) ?_
   refine .cons (fun E hA_ => by have g23 := hA_.get 23 (by decide); exact OpStep.plain rfl (Step.assign (p := (.one (.d (.int .i64 (getVar b s.f0).2.2)))) (t := 5) rfl rfl (by exact lt_ok rfl) (show Env.ev E (.tmp 23) = _ from g23.trans rfl))) ?_
   exact .nil _ _
  refine TL.nil ?_
  refine T.seq ?_
  refine T.region ?_
  refine TL.cons rfl (Step.move (p := (.one (.ptr 800 0))) rfl rfl (lt_ok rfl) rfl) ?_
  refine TL.cons rfl (Step.move (p := (.one (.ptr 800 0))) rfl rfl (lt_ok rfl) rfl) ?_
  refine TL.cons rfl (Step.move (p := (.one (.d (.int .i64 (getVar b s.f0).2.1)))) rfl rfl (lt_ok rfl) rfl) ?_
  refine TL.cons rfl (Step.move (p := (.one (.d (.int .i64 (getVar b s.f0).2.2)))) rfl rfl (lt_ok rfl) rfl) ?_
  refine TL.cons rfl (Step.nilCheck rfl rfl (lt_ok rfl) rfl) ?_
  refine TL.cons rfl (Step.fieldAddr (q := 0) (off := 1) (n := 1) (one := true) rfl rfl (lt_ok rfl) (by kernel_rfl) (Nat.succ_ne_zero _) rfl) ?_
  refine TL.cons rfl (Step.store_box (n := 1) (p := (.one (.d (.int .i64 (getVar b s.f0).2.1)))) (qs := [.d (.int .i64 (getVar b s.f0).2.1)]) (ps' := [.d (.ints .u8 b), .d (.int .i64 (getVar b s.f0).2.1), .d (.int .i64 s.f1)]) rfl rfl (by kernel_rfl) rfl rfl rfl rfl rfl rfl (le_ok rfl) rfl) ?_
  refine TL.cons rfl (Step.nilCheck rfl rfl (lt_ok rfl) rfl) ?_
  refine TL.cons rfl (Step.fieldAddr (q := 0) (off := 2) (n := 1) (one := true) rfl rfl (lt_ok rfl) (by kernel_rfl) (Nat.succ_ne_zero _) rfl) ?_
  refine TL.cons rfl (Step.store_box (n := 1) (p := (.one (.d (.int .i64 (getVar b s.f0).2.2)))) (qs := [.d (.int .i64 (getVar b s.f0).2.2)]) (ps' := [.d (.ints .u8 b), .d (.int .i64 (getVar b s.f0).2.1), .d (.int .i64 (getVar b s.f0).2.2)]) rfl rfl (by kernel_rfl) rfl rfl rfl rfl rfl rfl (le_ok rfl) rfl) ?_
  refine TL.nil ?_
  refine T.seq ?_
  refine T.region ?_
  refine TL.cons rfl (Step.move (p := (.one (.d (.int .i64 (getVar b s.f0).1)))) rfl rfl (lt_ok rfl) rfl) ?_
  refine TL.cons rfl (Step.assign (p := (.one (.d (.int .i64 (getVar b s.f0).1)))) rfl rfl (lt_ok rfl) rfl) ?_
  refine TL.nil ?_
  refine T.ret ?_
  refine ⟨[.d (.ints .u8 b), .d (.int .i64 (getVar b s.f0).2.1), .d (.int .i64 (getVar b s.f0).2.2)], [(false, [.d (.int .i64 (getVar b s.f0).1)])], rfl, rfl, (.cons rfl .nil), rfl, [], (RetC.rd' rfl (RetC.rd' ?_ (RetC.rd' ?_ (RetC.rd' ?_ .nil))))⟩ <;> (first | rfl | (congr 1; unfold rdNum; first | (rw [if_pos (by omega)]; done) | (rw [if_neg (by omega)]; done)) | (simp only [D.size]; unfold rdNum; rw [if_neg (by omega)]; rfl))
theorem ok_impl_copyBytes (a : List Int) (h0_ : a.length ≤ 17592186044416) : RO Try.prog 76 [.one (.ints .u8 a)] [(false, [.own 5 (.ints .u8 a)])] := by
 refine RO.intro Try.func76 rfl 6 rfl (le_ok rfl) fun w Z => ?_
 refine T.bnd 0 0 rfl rfl fun hb_0_0 => ?_
 simp only [D.size, List.length_map] at hb_0_0
 refine T.seq ?_
 refine T.region ?_
 refine TL.cons rfl (Step.assign (p := (.one (.nil))) rfl rfl (lt_ok rfl) rfl) ?_
 refine TL.nil ?_
 refine T.seq ?_
 refine T.region ?_
 refine TL.cons rfl (Step.lit (e := 5) (z := 1) (by_ := 1) (xs := []) (pss := []) (es := []) (ss := []) (d := (.ints .u8 [])) rfl rfl (lt_ok rfl) (by kernel_rfl) rfl rfl .nil (by simp) (le_ok rfl) (le_ok rfl) rfl .nil rfl (by simp) (by simp) rfl trivial rfl rfl) ?_
 refine TL.cons rfl (Step.move (p := (.one (.d (.ints .u8 a)))) rfl rfl (lt_ok rfl) rfl) ?_
 refine TL.cons rfl (Step.append (e := 5) (z := 1) (by_ := 1) (d := (.ints .u8 [])) (dy := (.ints .u8 a)) (d' := (.ints .u8 ([] ++ a))) (ss := []) rfl rfl (lt_ok rfl) (by kernel_rfl) rfl rfl rfl (lt_ok rfl) rfl (.froz rfl (by simp [D.flat, D.val])) (by simp) rfl (by simp only [D.size, List.length_map]; first | omega | (simp; omega) | (simp only [List.length_append] at *; omega)) (by simp only [D.size, List.length_map]; first | omega | (simp; omega) | (simp only [List.length_append] at *; omega)) (by simp)) ?_
 refine TL.cons rfl (Step.assign (p := (.one (.row 3 []))) rfl rfl (lt_ok rfl) rfl) ?_
 refine TL.nil ?_
 refine T.ret ?_
 refine ⟨[(false, [.row 3 []])], (.cons rfl .nil), rfl, [3], (RetC.own' rfl ?_ rfl .nil)⟩ <;> (rfl)
theorem ok_impl_GetRaw (b : List Int) (a : Int) (n : Int) (h0_ : b.length ≤ 1099511627776) : RO Try.prog 181 [.one (.ints .u8 b), .one (.int .i64 a), .one (.int .i64 n)] [(false, [.own 5 (.ints .u8 (getRaw b a n).1)]), (false, [.rd (.int .i64 (getRaw b a n).2.1)]), (false, [.rd (.int .i64 (getRaw b a n).2.2)])] := by
 refine RO.intro Try.func181 rfl 33 rfl (le_ok rfl) fun w Z => ?_
 refine T.bnd 0 0 rfl rfl fun hb_0_0 => ?_
 simp only [D.size, List.length_map] at hb_0_0
 refine T.seq ?_
 refine T.region ?_
 refine TL.cons rfl (Step.assign (p := (.one (.nil))) rfl rfl (lt_ok rfl) rfl) ?_
 refine TL.cons rfl (Step.assign (p := (.one (.d (.int .i64 0)))) rfl rfl (lt_ok rfl) rfl) ?_
 refine TL.cons rfl (Step.assign (p := (.one (.d (.int .i64 0)))) rfl rfl (lt_ok rfl) rfl) ?_
 refine TL.nil ?_
 refine T.seq ?_
 refine T.seq ?_
 refine T.region ?_
 refine TL.cons rfl (Step.move (p := (.one (.d (.int .i64 a)))) rfl rfl (lt_ok rfl) rfl) ?_
 refine TL.cons rfl (Step.move (p := (.one (.d (.ints .u8 b)))) rfl rfl (lt_ok rfl) rfl) ?_
 refine TL.cons rfl (Step.len (e := 5) (z := 1) (d := (.ints .u8 b)) rfl rfl (lt_ok rfl) (by kernel_rfl) rfl rfl) ?_
 refine TL.cons rfl (Step.call (f := 117) (xs := [.tmp 9, .const (.int .i64 0), .tmp 11]) (ps := [(.one (.d (.int .i64 a))), (.one (.d (.int .i64 0))), (.one (.d (.int .i64 (b.length : Int))))]) false (g := .func 117) rfl rfl (lt_ok rfl) rfl (by kernel_rfl) rfl (.cons (.one (.d _)) (.cons (.one (.d _)) (.cons (.one (.d _)) .nil))) (ok_impl_within a 0 (b.length : Int)) (.inr rfl) rfl (by simp) rfl) ?_
 refine TL.cons rfl (Step.not (b := (decide (0 ≤ a ∧ a ≤ (b.length : Int)))) rfl rfl (lt_ok rfl) rfl) ?_
 refine TL.cons rfl (Step.move (p := (.one (.d (.bool (!(decide (0 ≤ a ∧ a ≤ (b.length : Int)))))))) rfl rfl (lt_ok rfl) rfl) ?_
 rcases Bool.eq_false_or_eq_true (!(decide (0 ≤ a ∧ a ≤ (b.length : Int)))) with hb1 | hb1
 ·
  refine TL.known 14 hb1 rfl ?_
  have hb1' := hb1
  replace hb1' : (decide (0 ≤ a ∧ a ≤ (b.length : Int))) = false := by simpa only [Bool.not_eq_true', Bool.not_eq_false'] using hb1'
  replace hb1' := of_decide_eq_false hb1'
  refine TL.goff 14 rfl rfl (lt_ok rfl) rfl rfl rfl (lt_ok rfl) ?_
  refine TL.goff 14 rfl rfl (lt_ok rfl) rfl rfl rfl (lt_ok rfl) ?_
  refine TL.goff 14 rfl rfl (lt_ok rfl) rfl rfl rfl (lt_ok rfl) ?_
  refine TL.goff 14 rfl rfl (lt_ok rfl) rfl rfl rfl (lt_ok rfl) ?_
  refine TL.goff 14 rfl rfl (lt_ok rfl) rfl rfl rfl (lt_ok rfl) ?_
  refine TL.goff 14 rfl rfl (lt_ok rfl) rfl rfl rfl (lt_ok rfl) ?_
  refine TL.goff 14 rfl rfl (lt_ok rfl) rfl rfl rfl (lt_ok rfl) ?_
  refine TL.cons rfl (Step.pick (b := true) (p := (.one (.d (.bool true)))) rfl rfl (lt_ok rfl) rfl rfl) ?_
  refine TL.nil ?_
  refine T.cond (b := true) rfl (fun h2_ => ?_) (fun h2_ => absurd h2_ (by simp))
  refine T.seq ?_
  refine T.region ?_
  refine TL.cons rfl (Step.assign (p := (.one (.nil))) rfl rfl (lt_ok rfl) rfl) ?_
  refine TL.cons rfl (Step.assign (p := (.one (.d (.int .i64 0)))) rfl rfl (lt_ok rfl) rfl) ?_
  refine TL.cons rfl (Step.assign (p := (.one (.d (.int .i64 1)))) rfl rfl (lt_ok rfl) rfl) ?_
  refine TL.nil ?_
  refine T.ret ?_
  refine ⟨[(false, [.nil]), (false, [.d (.int .i64 0)]), (false, [.d (.int .i64 1)])], (.cons rfl (.cons rfl (.cons rfl .nil))), rfl, [], (RetC.nilown' rfl ?_ (by first | exact trivial | exact D.wf_nil _) (RetC.rd' ?_ (RetC.rd' ?_ .nil)))⟩ <;> (first | (congr 1; unfold getRaw; first | (rw [if_pos (by omega)]; done) | (rw [if_neg (by omega)]; done)) | (simp only [D.size]; unfold getRaw; rw [if_neg (by omega)]; rfl))
 ·
  refine TL.known 14 hb1 rfl ?_
  have hb1' := hb1
  replace hb1' : (decide (0 ≤ a ∧ a ≤ (b.length : Int))) = true := by simpa only [Bool.not_eq_true', Bool.not_eq_false'] using hb1'
  replace hb1' := of_decide_eq_true hb1'
  refine TL.gyes 14 rfl rfl (lt_ok rfl) rfl (Step.move (p := (.one (.d (.int .i64 n)))) rfl rfl (lt_ok rfl) rfl) ?_
  refine TL.gyes 14 rfl rfl (lt_ok rfl) rfl (Step.move (p := (.one (.d (.ints .u8 b)))) rfl rfl (lt_ok rfl) rfl) ?_
  refine TL.gyes 14 rfl rfl (lt_ok rfl) rfl (Step.len (e := 5) (z := 1) (d := (.ints .u8 b)) rfl rfl (lt_ok rfl) (by kernel_rfl) rfl rfl) ?_
  refine TL.gyes 14 rfl rfl (lt_ok rfl) rfl (Step.move (p := (.one (.d (.int .i64 a)))) rfl rfl (lt_ok rfl) rfl) ?_
  refine TL.gyes 14 rfl rfl (lt_ok rfl) rfl (Step.bin (r := .int .i64 ((b.length : Int) - a)) rfl rfl (lt_ok rfl) rfl rfl (Bin.sub (a := (b.length : Int)) (b := a) (by first | exact wrap_ok (by first | omega | (simp only [List.length_take, List.length_drop]; omega) | (simp; omega)) (by first | omega | (simp only [List.length_take, List.length_drop]; omega) | (simp; omega)) | rfl))) ?_
  refine TL.gyes 14 rfl rfl (lt_ok rfl) rfl (Step.call (f := 117) (xs := [.tmp 15, .const (.int .i64 0), .tmp 19]) (ps := [(.one (.d (.int .i64 n))), (.one (.d (.int .i64 0))), (.one (.d (.int .i64 ((b.length : Int) - a))))]) false (g := .func 117) rfl rfl (lt_ok rfl) rfl (by kernel_rfl) rfl (.cons (.one (.d _)) (.cons (.one (.d _)) (.cons (.one (.d _)) .nil))) (ok_impl_within n 0 ((b.length : Int) - a)) (.inr rfl) rfl (by simp) rfl) ?_
  refine TL.gyes 14 rfl rfl (lt_ok rfl) rfl (Step.not (b := (decide (0 ≤ n ∧ n ≤ ((b.length : Int) - a)))) rfl rfl (lt_ok rfl) rfl) ?_
  refine TL.cons rfl (Step.pick (b := false) (p := (.one (.d (.bool (!(decide (0 ≤ n ∧ n ≤ ((b.length : Int) - a)))))))) rfl rfl (lt_ok rfl) rfl rfl) ?_
  refine TL.nil ?_
  refine T.cond (b := !(decide (0 ≤ n ∧ n ≤ ((b.length : Int) - a)))) rfl (fun h3 => ?_) (fun h3 => ?_)
  ·
   replace h3 : (decide (0 ≤ n ∧ n ≤ ((b.length : Int) - a))) = false := by simpa only [Bool.not_eq_true', Bool.not_eq_false'] using h3
   replace h3 := of_decide_eq_false h3
   refine T.seq ?_
   refine T.region ?_
   refine TL.cons rfl (Step.assign (p := (.one (.nil))) rfl rfl (lt_ok rfl) rfl) ?_
   refine TL.cons rfl (Step.assign (p := (.one (.d (.int .i64 0)))) rfl rfl (lt_ok rfl) rfl) ?_
   refine TL.cons rfl (Step.assign (p := (.one (.d (.int .i64 1)))) rfl rfl (lt_ok rfl) rfl) ?_
   refine TL.nil ?_
   refine T.ret ?_
   refine ⟨[(false, [.nil]), (false, [.d (.int .i64 0)]), (false, [.d (.int .i64 1)])], (.cons rfl (.cons rfl (.cons rfl .nil))), rfl, [], (RetC.nilown' rfl ?_ (by first | exact trivial | exact D.wf_nil _) (RetC.rd' ?_ (RetC.rd' ?_ .nil)))⟩ <;> (first | (congr 1; unfold getRaw; first | (rw [if_pos (by omega)]; done) | (rw [if_neg (by omega)]; done)) | (simp only [D.size]; unfold getRaw; rw [if_neg (by omega)]; rfl))
  ·
   replace h3 : (decide (0 ≤ n ∧ n ≤ ((b.length : Int) - a))) = true := by simpa only [Bool.not_eq_true', Bool.not_eq_false'] using h3
   replace h3 := of_decide_eq_true h3
   refine T.skip ?_
   refine T.seq ?_
   refine T.region ?_
   refine TL.cons rfl (Step.move (p := (.one (.d (.ints .u8 b)))) rfl rfl (lt_ok rfl) rfl) ?_
   refine TL.cons rfl (Step.move (p := (.one (.d (.int .i64 a)))) rfl rfl (lt_ok rfl) rfl) ?_
   refine TL.cons rfl (Step.move (p := (.one (.d (.int .i64 a)))) rfl rfl (lt_ok rfl) rfl) ?_
   refine TL.cons rfl (Step.move (p := (.one (.d (.int .i64 n)))) rfl rfl (lt_ok rfl) rfl) ?_
   refine TL.cons rfl (Step.bin (r := .int .i64 (a + n)) rfl rfl (lt_ok rfl) rfl rfl (Bin.add (a := a) (b := n) (by first | exact wrap_ok (by first | omega | (simp only [List.length_take, List.length_drop]; omega) | (simp; omega)) (by first | omega | (simp only [List.length_take, List.length_drop]; omega) | (simp; omega)) | rfl))) ?_
   refine TL.cons rfl (Step.slice (e := 5) (z := 1) (l := (a).toNat) (h := (a + n).toNat) rfl rfl (lt_ok rfl) (by kernel_rfl) rfl rfl rfl ((.some (i := a) rfl (by first | omega | (simp only [List.length_take, List.length_drop]; omega) | (simp; omega)))) ((.some (i := (a + n)) rfl (by first | omega | (simp only [List.length_take, List.length_drop]; omega) | (simp; omega)))) (by first | omega | (simp only [List.length_take, List.length_drop]; omega) | (simp; omega)) (by simp only [D.size]; first | omega | (simp only [List.length_take, List.length_drop]; omega) | (simp; omega)) rfl) ?_
   refine TL.cons rfl (Step.call (f := 76) (xs := [.tmp 28]) (ps := [(.one (.d (.ints .u8 ((b.drop (a).toNat).take ((a + n).toNat - (a).toNat)))))]) false (g := .func 76) rfl rfl (lt_ok rfl) rfl (by kernel_rfl) rfl (.cons (.one (.d _)) .nil) (ok_impl_copyBytes ((b.drop (a).toNat).take ((a + n).toNat - (a).toNat)) (by first | omega | assumption | (simp only [List.length_take, List.length_drop]; omega))) (.inr rfl) rfl (by simp) rfl) ?_
   refine TL.cons rfl (Step.move (p := (.one (.d (.int .i64 a)))) rfl rfl (lt_ok rfl) rfl) ?_
   refine TL.cons rfl (Step.move (p := (.one (.d (.int .i64 n)))) rfl rfl (lt_ok rfl) rfl) ?_
   refine TL.cons rfl (Step.bin (r := .int .i64 (a + n)) rfl rfl (lt_ok rfl) rfl rfl (Bin.add (a := a) (b := n) (by first | exact wrap_ok (by first | omega | (simp only [List.length_take, List.length_drop]; omega) | (simp; omega)) (by first | omega | (simp only [List.length_take, List.length_drop]; omega) | (simp; omega)) | rfl))) ?_
   refine TL.cons rfl (Step.assign (p := (.one (.row 1029 []))) rfl rfl (lt_ok rfl) rfl) ?_
   refine TL.cons rfl (Step.assign (p := (.one (.d (.int .i64 (a + n))))) rfl rfl (lt_ok rfl) rfl) ?_
   refine TL.cons rfl (Step.assign (p := (.one (.d (.int .i64 0)))) rfl rfl (lt_ok rfl) rfl) ?_
   refine TL.nil ?_
   refine T.ret ?_
   refine ⟨[(false, [.row 1029 []]), (false, [.d (.int .i64 (a + n))]), (false, [.d (.int .i64 0)])], (.cons rfl (.cons rfl (.cons rfl .nil))), rfl, [1029], (RetC.own' rfl ?_ rfl (RetC.rd' ?_ (RetC.rd' ?_ .nil)))⟩ <;> (first | (congr 1; unfold getRaw; first | (rw [if_pos (by omega)]; done) | (rw [if_neg (by omega)]; done)) | (simp only [D.size]; unfold getRaw; rw [if_neg (by omega)]; rfl))
theorem ok_impl_reader__raw (b : List Int) (s : SRS) (n : Int) (h0_ : U8s b) (h1_ : b.length ≤ 1048576) : BX Try.prog 180 [.bx, .rd (.one (.int .i64 n))] 144 [.rd (.ints .u8 b), .rd (.int .i64 s.f0), .rd (.int .i64 s.f1)] [.rd (.ints .u8 b), .rd (.int .i64 (rdRaw b s n).1.f0), .rd (.int .i64 (rdRaw b s n).1.f1)] [(false, [.own 5 (.ints .u8 (rdRaw b s n).2)])] := by
 refine BX.intro Try.func180 rfl 36 rfl (le_ok rfl) (le_ok rfl) fun w Z IX pin hp => ?_
 refine T.seq ?_
 refine T.region ?_
 refine TL.cons rfl (Step.assign (p := (.one (.nil))) rfl rfl (lt_ok rfl) rfl) ?_
 refine TL.nil ?_
 refine T.seq ?_
 refine T.seq ?_
 refine T.region ?_
 refine TL.cons rfl (Step.move (p := (.one (.ptr 800 0))) rfl rfl (lt_ok rfl) rfl) ?_
 refine TL.cons rfl (Step.nilCheck rfl rfl (lt_ok rfl) rfl) ?_
 refine TL.cons rfl (Step.fieldAddr (q := 0) (off := 2) (n := 1) (one := true) rfl rfl (lt_ok rfl) (by kernel_rfl) (Nat.succ_ne_zero _) rfl) ?_
 refine TL.cons rfl (Step.load_box (c := .d (.int .i64 s.f1)) rfl rfl (lt_ok rfl) (by kernel_rfl) rfl rfl rfl) ?_
 refine TL.cons rfl (Step.bin rfl rfl (lt_ok rfl) rfl rfl (Bin.neq (k := .i64) (a := s.f1) (b := 0))) ?_
 refine TL.nil ?_
 refine T.cond (b := decide (s.f1 ≠ 0)) rfl (fun h1 => ?_) (fun h1 => ?_)
 ·
  replace h1 := of_decide_eq_true h1
  refine T.seq ?_
  refine T.region ?_
  refine TL.cons rfl (Step.assign (p := (.one (.nil))) rfl rfl (lt_ok rfl) rfl) ?_
  refine TL.nil ?_
  refine T.ret ?_
  refine ⟨[.d (.ints .u8 b), .d (.int .i64 s.f0), .d (.int .i64 s.f1)], [(false, [.nil])], rfl, rfl, (.cons rfl .nil), rfl, [], (RetC.rd' rfl (RetC.rd' ?_ (RetC.rd' ?_ (RetC.nilown' rfl ?_ (by first | exact trivial | exact D.wf_nil _) .nil))))⟩ <;> (first | rfl | (congr 1; unfold rdRaw; first | (rw [if_pos (by omega)]; done) | (rw [if_neg (by omega)]; done)) | (simp only [D.size]; unfold rdRaw; rw [if_neg (by omega)]; rfl))
 ·
  replace h1 := of_decide_eq_false h1
  refine T.skip ?_
  refine T.seq ?_
  have nn2 := getRaw_bd b s.f0 n
  refine T.draw [⟨14, (.one (.ptr 800 0)), []⟩, ⟨15, (.one (.ptr 800 0)), []⟩, ⟨16, (.one (.ptr 800 0)), []⟩, ⟨17, (.one (.d (.ints .u8 b))), []⟩, ⟨18, (.one (.ptr 800 0)), []⟩, ⟨19, (.one (.ptr 800 0)), []⟩, ⟨20, (.one (.ptr 800 1)), []⟩, ⟨21, (.one (.d (.int .i64 s.f0))), []⟩, ⟨22, (.one (.d (.int .i64 n))), []⟩, ⟨23, (.tup [(false, [.row 1023 []]), (false, [.d (.int .i64 (getRaw b s.f0 n).2.1)]), (false, [.d (.int .i64 (getRaw b s.f0 n).2.2)])]), [(1023, (5, (.ints .u8 (getRaw b s.f0 n).1)))]⟩, ⟨13, (.tup [(false, [.row 1023 []]), (false, [.d (.int .i64 (getRaw b s.f0 n).2.1)]), (false, [.d (.int .i64 (getRaw b s.f0 n).2.2)])]), []⟩, ⟨24, (.one (.row 1023 [])), []⟩, ⟨25, (.one (.d (.int .i64 (getRaw b s.f0 n).2.1))), []⟩, ⟨26, (.one (.d (.int .i64 (getRaw b s.f0 n).2.2))), []⟩, ⟨5, (.one (.row 1023 [])), []⟩, ⟨6, (.one (.d (.int .i64 (getRaw b s.f0 n).2.1))), []⟩, ⟨7, (.one (.d (.int .i64 (getRaw b s.f0 n).2.2))), []⟩] (by kernel_rfl) (by kernel_rfl) ?_ ?_
  ·
   refine .cons (fun E hA_ => by have g0 := hA_.get 0 (by decide); exact OpStep.plain rfl (Step.move (p := (.one (.ptr 800 0))) (t := 14) rfl rfl (by exact lt_ok rfl) (show Env.ev E (.tmp 0) = _ from g0.trans rfl))) ?_
   refine .cons (fun E hA_ => by have g14 := hA_.get 14 (by decide); exact OpStep.plain rfl (Step.nilCheck (t := 15) rfl rfl (by exact lt_ok rfl) (show Env.ev E (.tmp 14) = _ from g14.trans rfl))) ?_
   refine .cons (fun E hA_ => by have g15 := hA_.get 15 (by decide); exact OpStep.plain rfl (Step.fieldAddr (q := 0) (off := 0) (n := 1) (one := true) (t := 16) rfl rfl (by exact lt_ok rfl) (by kernel_rfl) (Nat.succ_ne_zero _) (show Env.ev E (.tmp 15) = _ from g15.trans rfl))) ?_
   refine .cons (fun E hA_ => by have g16 := hA_.get 16 (by decide); exact OpStep.plain rfl (Step.load_box (c := .d (.ints .u8 b)) (t := 17) rfl rfl (by exact lt_ok rfl) (by kernel_rfl) (show Env.ev E (.tmp 16) = _ from g16.trans rfl) (by exact hA_.box rfl) rfl)) ?_
   refine .cons (fun E hA_ => by have g0 := hA_.get 0 (by decide); exact OpStep.plain rfl (Step.move (p := (.one (.ptr 800 0))) (t := 18) rfl rfl (by exact lt_ok rfl) (show Env.ev E (.tmp 0) = _ from g0.trans rfl))) ?_
   refine .cons (fun E hA_ => by have g18 := hA_.get 18 (by decide); exact OpStep.plain rfl (Step.nilCheck (t := 19) rfl rfl (by exact lt_ok rfl) (show Env.ev E (.tmp 18) = _ from g18.trans rfl))) ?_
   refine .cons (fun E hA_ => by have g19 := hA_.get 19 (by decide); exact OpStep.plain rfl (Step.fieldAddr (q := 0) (off := 1) (n := 1) (one := true) (t := 20) rfl rfl (by exact lt_ok rfl) (by kernel_rfl) (Nat.succ_ne_zero _) (show Env.ev E (.tmp 19) = _ from g19.trans rfl))) ?_
   refine .cons (fun E hA_ => by have g20 := hA_.get 20 (by decide); exact OpStep.plain rfl (Step.load_box (c := .d (.int .i64 s.f0)) (t := 21) rfl rfl (by exact lt_ok rfl) (by kernel_rfl) (show Env.ev E (.tmp 20) = _ from g20.trans rfl) (by exact hA_.box rfl) rfl)) ?_
   refine .cons (fun E hA_ => by have g1 := hA_.get 1 (by decide); exact OpStep.plain rfl (Step.move (p := (.one (.d (.int .i64 n)))) (t := 22) rfl rfl (by exact lt_ok rfl) (show Env.ev E (.tmp 1) = _ from g1.trans rfl))) ?_
   refine .cons (fun E hA_ => by have g17 := hA_.get 17 (by decide); have g21 := hA_.get 21 (by decide); have g22 := hA_.get 22 (by decide); exact OpStep.plain rfl (Step.call (f := 181) (xs := [.tmp 17, .tmp 21, .tmp 22]) (ps := [(.one (.d (.ints .u8 b))), (.one (.d (.int .i64 s.f0))), (.one (.d (.int .i64 n)))]) false (g := .func 181) (t := 23) rfl rfl (by exact lt_ok rfl) rfl (by kernel_rfl) (evs_cons (show Env.ev E (.tmp 17) = _ from g17.trans rfl) (evs_cons (show Env.ev E (.tmp 21) = _ from g21.trans rfl) (evs_cons (show Env.ev E (.tmp 22) = _ from g22.trans rfl) (rfl)))) (.cons (.one (.d _)) (.cons (.one (.d _)) (.cons (.one (.d _)) .nil))) (ok_impl_GetRaw b s.f0 n (by first | omega | assumption | (simp only [List.length_append] at *; omega))) (.inr rfl) (At.freshRows hA_ rfl) (fun x hx => by have := hp x hx; omega) rfl)) ?_
   refine .cons (fun E hA_ => by have g23 := hA_.get 23 (by decide); exact OpStep.plain rfl (Step.move (p := (.tup [(false, [.row 1023 []]), (false, [.d (.int .i64 (getRaw b s.f0 n).2.1)]), (false, [.d (.int .i64 (getRaw b s.f0 n).2.2)])])) (t := 13) rfl rfl (by exact lt_ok rfl) (show Env.ev E (.tmp 23) = _ from g23.trans rfl))) ?_
   refine .cons (fun E hA_ => by have g13 := hA_.get 13 (by decide); exact OpStep.plain rfl (Step.extract (p := (.one (.row 1023 []))) (t := 24) rfl rfl (by exact lt_ok rfl) (show Env.ev E (.tmp 13) = _ from g13.trans rfl) rfl)) ?_
   refine .cons (fun E hA_ => by have g13 := hA_.get 13 (by decide); exact OpStep.plain rfl (Step.extract (p := (.one (.d (.int .i64 (getRaw b s.f0 n).2.1)))) (t := 25) rfl rfl (by exact lt_ok rfl) (show Env.ev E (.tmp 13) = _ from g13.trans rfl) rfl)) ?_
   refine .cons (fun E hA_ => by have g13 := hA_.get 13 (by decide); exact OpStep.plain rfl (Step.extract (p := (.one (.d (.int .i64 (getRaw b s.f0 n).2.2)))) (t := 26) rfl rfl (by exact lt_ok rfl) (show Env.ev E (.tmp 13) = _ from g13.trans rfl) rfl)) ?_
   refine .cons (fun E hA_ => by have g24 := hA_.get 24 (by decide); exact OpStep.plain rfl (Step.assign (p := (.one (.row 1023 []))) (t := 5) rfl rfl (by exact lt_ok rfl) (show Env.ev E (.tmp 24) = _ from g24.trans rfl))) ?_
   refine .cons (fun E hA_ => by have g25 := hA_.get 25 (by decide); exact OpStep.plain rfl (Step.assign (p := (.one (.d (.int .i64 (getRaw b s.f0 n).2.1)))) (t := 6) rfl rfl (by exact lt_ok rfl) (show Env.ev E (.tmp 25) = _ from g25.trans rfl))) ?_
   refine .cons (fun E hA_ => by have g26 := hA_.get 26 (by decide); exact OpStep.plain rfl (Step.assign (p := (.one (.d (.int .i64 (getRaw b s.f0 n).2.2)))) (t := 7) rfl rfl (by exact lt_ok rfl) (show Env.ev E (.tmp 26) = _ from g26.trans rfl))) ?_
   exact .nil _ _
  refine TL.nil ?_
  refine T.seq ?_
  refine T.region ?_
  refine TL.cons rfl (Step.move (p := (.one (.ptr 800 0))) rfl rfl (lt_ok rfl) rfl) ?_
  refine TL.cons rfl (Step.move (p := (.one (.ptr 800 0))) rfl rfl (lt_ok rfl) rfl) ?_
  refine TL.cons rfl (Step.move (p := (.one (.d (.int .i64 (getRaw b s.f0 n).2.1)))) rfl rfl (lt_ok rfl) rfl) ?_
  refine TL.cons rfl (Step.move (p := (.one (.d (.int .i64 (getRaw b s.f0 n).2.2)))) rfl rfl (lt_ok rfl) rfl) ?_
  refine TL.cons rfl (Step.nilCheck rfl rfl (lt_ok rfl) rfl) ?_
  refine TL.cons rfl (Step.fieldAddr (q := 0) (off := 1) (n := 1) (one := true) rfl rfl (lt_ok rfl) (by kernel_rfl) (Nat.succ_ne_zero _) rfl) ?_
  refine TL.cons rfl (Step.store_box (n := 1) (p := (.one (.d (.int .i64 (getRaw b s.f0 n).2.1)))) (qs := [.d (.int .i64 (getRaw b s.f0 n).2.1)]) (ps' := [.d (.ints .u8 b), .d (.int .i64 (getRaw b s.f0 n).2.1), .d (.int .i64 s.f1)]) rfl rfl (by kernel_rfl) rfl rfl rfl rfl rfl rfl (le_ok rfl) rfl) ?_
  refine TL.cons rfl (Step.nilCheck rfl rfl (lt_ok rfl) rfl) ?_
  refine TL.cons rfl (Step.fieldAddr (q := 0) (off := 2) (n := 1) (one := true) rfl rfl (lt_ok rfl) (by kernel_rfl) (Nat.succ_ne_zero _) rfl) ?_
  refine TL.cons rfl (Step.store_box (n := 1) (p := (.one (.d (.int .i64 (getRaw b s.f0 n).2.2)))) (qs := [.d (.int .i64 (getRaw b s.f0 n).2.2)]) (ps' := [.d (.ints .u8 b), .d (.int .i64 (getRaw b s.f0 n).2.1), .d (.int .i64 (getRaw b s.f0 n).2.2)]) rfl rfl (by kernel_rfl) rfl rfl rfl rfl rfl rfl (le_ok rfl) rfl) ?_
  refine TL.nil ?_
  refine T.seq ?_
  refine T.region ?_
  refine TL.cons rfl (Step.move (p := (.one (.row 1023 []))) rfl rfl (lt_ok rfl) rfl) ?_
  refine TL.cons rfl (Step.assign (p := (.one (.row 1023 []))) rfl rfl (lt_ok rfl) rfl) ?_
  refine TL.nil ?_
  refine T.ret ?_
  refine ⟨[.d (.ints .u8 b), .d (.int .i64 (getRaw b s.f0 n).2.1), .d (.int .i64 (getRaw b s.f0 n).2.2)], [(false, [.row 1023 []])], rfl, rfl, (.cons rfl .nil), rfl, [1023], (RetC.rd' rfl (RetC.rd' ?_ (RetC.rd' ?_ (RetC.own' rfl ?_ rfl .nil))))⟩ <;> (first | rfl | (congr 1; unfold rdRaw; first | (rw [if_pos (by omega)]; done) | (rw [if_neg (by omega)]; done)) | (simp only [D.size]; unfold rdRaw; rw [if_neg (by omega)]; rfl))
theorem ok_impl_reader__hash (b : List Int) (s : SRS) (h0_ : U8s b) (h1_ : b.length ≤ 1048576) : BX Try.prog 137 [.bx] 144 [.rd (.ints .u8 b), .rd (.int .i64 s.f0), .rd (.int .i64 s.f1)] [.rd (.ints .u8 b), .rd (.int .i64 (rdRaw b s 32).1.f0), .rd (.int .i64 (rdRaw b s 32).1.f1)] [(false, [.own 5 (.ints .u8 (rdRaw b s 32).2)])] := by
 refine BX.intro Try.func137 rfl 5 rfl (le_ok rfl) (le_ok rfl) fun w Z IX pin hp => ?_
 refine T.seq ?_
 refine T.region ?_
 refine TL.cons rfl (Step.assign (p := (.one (.nil))) rfl rfl (lt_ok rfl) rfl) ?_
 refine TL.nil ?_
 refine T.seq ?_
 refine T.region ?_
 refine TL.cons rfl (Step.move (p := (.one (.ptr 800 0))) rfl rfl (lt_ok rfl) rfl) ?_
 have nn1 := rdRaw_len b s 32
 refine TL.cons rfl (Step.callX2 (b := 800) (xs := [.tmp 3, .const (.int .i64 32)]) (ps := [(.one (.ptr 800 0)), (.one (.d (.int .i64 32)))]) (bps := [.d (.ints .u8 b), .d (.int .i64 s.f0), .d (.int .i64 s.f1)]) (ss := []) (g := .func 180) (ok_impl_reader__raw b s 32 (by assumption) (by first | omega | assumption | (simp only [List.length_append] at *; omega))) rfl rfl (lt_ok rfl) rfl (by kernel_rfl) rfl (.cons (.bx) (.cons (.rd (.one (.d _))) .nil)) rfl (.rd (.rd (.rd .nil))) rfl rfl (fun x hx => by have := hp x hx; omega) rfl) ?_
 refine TL.cons rfl (Step.assign (p := (.one (.row 4004 []))) rfl rfl (lt_ok rfl) rfl) ?_
 refine TL.nil ?_
 refine T.ret ?_
 refine ⟨[.d (.ints .u8 b), .d (.int .i64 (rdRaw b s 32).1.f0), .d (.int .i64 (rdRaw b s 32).1.f1)], [(false, [.row 4004 []])], rfl, rfl, (.cons rfl .nil), rfl, [4004], (RetC.rd' rfl (RetC.rd' rfl (RetC.rd' rfl (RetC.own' rfl ?_ rfl .nil))))⟩ <;> (rfl)
theorem ok_impl_BitsSize (n : Int) (h0_ : n ≤ 9223372036854775807) : RO Try.prog 182 [.one (.int .i64 n)] [(false, [.rd (.int .i64 (bitsSize n))])] := by
 refine RO.intro Try.func182 rfl 9 rfl (le_ok rfl) fun w Z => ?_
 refine T.seq ?_
 refine T.region ?_
 refine TL.cons rfl (Step.assign (p := (.one (.d (.int .i64 0)))) rfl rfl (lt_ok rfl) rfl) ?_
 refine TL.nil ?_
 refine T.seq ?_
 refine T.seq ?_
 refine T.region ?_
 refine TL.cons rfl (Step.move (p := (.one (.d (.int .i64 n)))) rfl rfl (lt_ok rfl) rfl) ?_
 refine TL.cons rfl (Step.bin rfl rfl (lt_ok rfl) rfl rfl (Bin.lss (k := .i64) (a := n) (b := 1))) ?_
 refine TL.nil ?_
 refine T.cond (b := decide (n < 1)) rfl (fun h1 => ?_) (fun h1 => ?_)
 ·
  replace h1 := of_decide_eq_true h1
  refine T.seq ?_
  refine T.region ?_
  refine TL.cons rfl (Step.assign (p := (.one (.d (.int .i64 0)))) rfl rfl (lt_ok rfl) rfl) ?_
  refine TL.nil ?_
  refine T.ret ?_
  refine ⟨[(false, [.d (.int .i64 0)])], (.cons rfl .nil), rfl, [], (RetC.rd' ?_ .nil)⟩ <;> ((congr 1; unfold bitsSize; first | rw [if_pos (by omega)] | (rw [if_neg (by omega)]; done) | (rw [if_neg (by omega)]; omega)))
 ·
  replace h1 := of_decide_eq_false h1
  refine T.skip ?_
  refine T.seq ?_
  refine T.region ?_
  refine TL.cons rfl (Step.move (p := (.one (.d (.int .i64 n)))) rfl rfl (lt_ok rfl) rfl) ?_
  refine TL.cons rfl (Step.bin (r := .int .i64 (n - 1)) rfl rfl (lt_ok rfl) rfl rfl (Bin.sub (a := n) (b := 1) (by first | exact wrap_ok (by first | omega | (simp; omega)) (by first | omega | (simp; omega)) | rfl))) ?_
  refine TL.cons rfl (Step.bin (r := .int .i64 ((n - 1) / 8)) rfl rfl (lt_ok rfl) rfl rfl (Bin.quo (k := .i64) (a := (n - 1)) (b := 8) (by decide) (by rw [Int.tdiv_eq_ediv_of_nonneg (by first | omega | (simp; omega))]; exact wrap_ok (by first | omega | (simp; omega)) (by first | omega | (simp; omega))))) ?_
  refine TL.cons rfl (Step.bin (r := .int .i64 (((n - 1) / 8) + 1)) rfl rfl (lt_ok rfl) rfl rfl (Bin.add (a := ((n - 1) / 8)) (b := 1) (by first | exact wrap_ok (by first | omega | (simp; omega)) (by first | omega | (simp; omega)) | rfl))) ?_
  refine TL.cons rfl (Step.assign (p := (.one (.d (.int .i64 (((n - 1) / 8) + 1))))) rfl rfl (lt_ok rfl) rfl) ?_
  refine TL.nil ?_
  refine T.ret ?_
  refine ⟨[(false, [.d (.int .i64 (((n - 1) / 8) + 1))])], (.cons rfl .nil), rfl, [], (RetC.rd' ?_ .nil)⟩ <;> ((congr 1; unfold bitsSize; first | rw [if_pos (by omega)] | (rw [if_neg (by omega)]; done) | (rw [if_neg (by omega)]; omega)))
theorem ok_impl_BitsHas (b : List Int) (i : Int) (h0_ : U8s b) (h1_ : b.length ≤ 17592186044416) (h2_ : i ≤ 9223372036854775807) : RO Try.prog 197 [.one (.ints .u8 b), .one (.int .i64 i)] [(false, [.rd (.bool (bitHas b i))])] := by
 refine RO.intro Try.func197 rfl 23 rfl (le_ok rfl) fun w Z => ?_
 refine T.bnd 0 0 rfl rfl fun hb_0_0 => ?_
 simp only [D.size, List.length_map] at hb_0_0
 have hu_ := getD_u8 h0_ (i / 8).toNat
 have hp_ := div_pow_bd hu_.1 hu_.2 (i % 8).toNat
 refine T.seq ?_
 refine T.region ?_
 refine TL.cons rfl (Step.assign (p := (.one (.d (.bool false)))) rfl rfl (lt_ok rfl) rfl) ?_
 refine TL.nil ?_
 refine T.seq ?_
 refine T.region ?_
 refine TL.cons rfl (Step.move (p := (.one (.d (.int .i64 i)))) rfl rfl (lt_ok rfl) rfl) ?_
 refine TL.cons rfl (Step.move (p := (.one (.d (.ints .u8 b)))) rfl rfl (lt_ok rfl) rfl) ?_
 refine TL.cons rfl (Step.len (e := 5) (z := 1) (d := (.ints .u8 b)) rfl rfl (lt_ok rfl) (by kernel_rfl) rfl rfl) ?_
 refine TL.cons rfl (Step.bin (r := .int .i64 (8 * (b.length : Int))) rfl rfl (lt_ok rfl) rfl rfl (Bin.mul (a := 8) (b := (b.length : Int)) (by first | exact wrap_ok (by first | omega | exact hp_.1 | exact hp_.2 | (simp; omega)) (by first | omega | exact hp_.1 | exact hp_.2 | (simp; omega)) | rfl))) ?_
 refine TL.cons rfl (Step.bin (r := .int .i64 ((8 * (b.length : Int)) - 1)) rfl rfl (lt_ok rfl) rfl rfl (Bin.sub (a := (8 * (b.length : Int))) (b := 1) (by first | exact wrap_ok (by first | omega | exact hp_.1 | exact hp_.2 | (simp; omega)) (by first | omega | exact hp_.1 | exact hp_.2 | (simp; omega)) | rfl))) ?_
 refine TL.cons rfl (Step.call (f := 117) (xs := [.tmp 5, .const (.int .i64 0), .tmp 9]) (ps := [(.one (.d (.int .i64 i))), (.one (.d (.int .i64 0))), (.one (.d (.int .i64 ((8 * (b.length : Int)) - 1))))]) false (g := .func 117) rfl rfl (lt_ok rfl) rfl (by kernel_rfl) rfl (.cons (.one (.d _)) (.cons (.one (.d _)) (.cons (.one (.d _)) .nil))) (ok_impl_within i 0 ((8 * (b.length : Int)) - 1)) (.inr rfl) rfl (by simp) rfl) ?_
 refine TL.cons rfl (Step.move (p := (.one (.d (.bool (decide (0 ≤ i ∧ i ≤ ((8 * (b.length : Int)) - 1))))))) rfl rfl (lt_ok rfl) rfl) ?_
 rcases Bool.eq_false_or_eq_true (decide (0 ≤ i ∧ i ≤ ((8 * (b.length : Int)) - 1))) with hb1 | hb1
 ·
  refine TL.known 11 hb1 rfl ?_
  have hb1' := hb1
  replace hb1' := of_decide_eq_true hb1'
  refine TL.gyes 11 rfl rfl (lt_ok rfl) rfl (Step.move (p := (.one (.d (.ints .u8 b)))) rfl rfl (lt_ok rfl) rfl) ?_
  refine TL.gyes 11 rfl rfl (lt_ok rfl) rfl (Step.move (p := (.one (.d (.int .i64 i)))) rfl rfl (lt_ok rfl) rfl) ?_
  refine TL.gyes 11 rfl rfl (lt_ok rfl) rfl (Step.bin (r := .int .i64 (i / 8)) rfl rfl (lt_ok rfl) rfl rfl (Bin.quo (k := .i64) (a := i) (b := 8) (by decide) (by rw [Int.tdiv_eq_ediv_of_nonneg (by first | omega | exact hp_.1 | exact hp_.2 | (simp; omega))]; exact wrap_ok (by first | omega | exact hp_.1 | exact hp_.2 | (simp; omega)) (by first | omega | exact hp_.1 | exact hp_.2 | (simp; omega))))) ?_
  refine TL.gyes 11 rfl rfl (lt_ok rfl) rfl (Step.index (e := 5) (z := 1) (i := (i / 8)) rfl rfl (lt_ok rfl) (by kernel_rfl) rfl rfl rfl (lt_ok rfl) rfl (by first | omega | exact hp_.1 | exact hp_.2 | (simp; omega)) (by simp only [D.size]; first | omega | exact hp_.1 | exact hp_.2 | (simp; omega))) ?_
  refine TL.gyes 11 rfl rfl (lt_ok rfl) rfl (Step.load (e := (.int .u8 (b.getD (i / 8).toNat 0))) rfl rfl (lt_ok rfl) (by kernel_rfl) rfl rfl) ?_
  refine TL.gyes 11 rfl rfl (lt_ok rfl) rfl (Step.move (p := (.one (.d (.int .i64 i)))) rfl rfl (lt_ok rfl) rfl) ?_
  refine TL.gyes 11 rfl rfl (lt_ok rfl) rfl (Step.bin (r := .int .i64 (i % 8)) rfl rfl (lt_ok rfl) rfl rfl (Bin.rem (k := .i64) (a := i) (b := 8) (by decide) (Int.tmod_eq_emod_of_nonneg (by first | omega | exact hp_.1 | exact hp_.2 | (simp; omega))))) ?_
  refine TL.gyes 11 rfl rfl (lt_ok rfl) rfl (Step.bin (r := .int .u8 ((b.getD (i / 8).toNat 0) / 2 ^ ((i % 8)).toNat)) rfl rfl (lt_ok rfl) rfl rfl (Bin.shr (k := .u8) (k' := .i64) (a := (b.getD (i / 8).toNat 0)) (b := (i % 8)) (by first | omega | exact hp_.1 | exact hp_.2 | (simp; omega)) (shr_ok (by first | omega | exact hp_.1 | exact hp_.2 | (simp; omega)) (by show _ < ((8 : Nat) : Int); first | omega | exact hp_.1 | exact hp_.2 | (simp; omega))))) ?_
  refine TL.gyes 11 rfl rfl (lt_ok rfl) rfl (Step.bin (r := .int .u8 (((b.getD (i / 8).toNat 0) / 2 ^ ((i % 8)).toNat) % 2)) rfl rfl (lt_ok rfl) rfl rfl (Bin.and (k := .u8) (a := ((b.getD (i / 8).toNat 0) / 2 ^ ((i % 8)).toNat)) (b := 1) (and1_u8 (by first | omega | exact hp_.1 | exact hp_.2 | (simp; omega)) (by first | omega | exact hp_.1 | exact hp_.2 | (simp; omega))))) ?_
  refine TL.gyes 11 rfl rfl (lt_ok rfl) rfl (Step.bin rfl rfl (lt_ok rfl) rfl rfl (Bin.eql (k := .u8) (a := (((b.getD (i / 8).toNat 0) / 2 ^ ((i % 8)).toNat) % 2)) (b := 1))) ?_
  refine TL.cons rfl (Step.pick (b := true) (p := (.one (.d (.bool (decide ((((b.getD (i / 8).toNat 0) / 2 ^ ((i % 8)).toNat) % 2) = 1)))))) rfl rfl (lt_ok rfl) rfl rfl) ?_
  refine TL.cons rfl (Step.assign (p := (.one (.d (.bool (decide ((((b.getD (i / 8).toNat 0) / 2 ^ ((i % 8)).toNat) % 2) = 1)))))) rfl rfl (lt_ok rfl) rfl) ?_
  refine TL.nil ?_
  refine T.ret ?_
  refine ⟨[(false, [.d (.bool (decide ((((b.getD (i / 8).toNat 0) / 2 ^ ((i % 8)).toNat) % 2) = 1)))])], (.cons rfl .nil), rfl, [], (RetC.rd' ?_ .nil)⟩ <;> ((congr 1; symm; unfold bitHas; first | (rw [decide_eq_false (p := 0 ≤ i) (by omega)]; rfl) | (rw [decide_eq_true (p := 0 ≤ i) (by omega), decide_eq_false (p := i / 8 < (b.length : Int)) (by omega)]; rfl) | (rw [decide_eq_true (p := 0 ≤ i) (by omega), decide_eq_true (p := i / 8 < (b.length : Int)) (by omega)]; rfl) | (by_cases hi_ : 0 ≤ i; (rw [decide_eq_true (p := 0 ≤ i) (by omega), decide_eq_false (p := i / 8 < (b.length : Int)) (by omega)]; rfl); (rw [decide_eq_false (p := 0 ≤ i) hi_]; rfl))))
 ·
  refine TL.known 11 hb1 rfl ?_
  have hb1' := hb1
  replace hb1' := of_decide_eq_false hb1'
  refine TL.goff 11 rfl rfl (lt_ok rfl) rfl rfl rfl (lt_ok rfl) ?_
  refine TL.goff 11 rfl rfl (lt_ok rfl) rfl rfl rfl (lt_ok rfl) ?_
  refine TL.goff 11 rfl rfl (lt_ok rfl) rfl rfl rfl (lt_ok rfl) ?_
  refine TL.goff 11 rfl rfl (lt_ok rfl) rfl rfl rfl (lt_ok rfl) ?_
  refine TL.goff 11 rfl rfl (lt_ok rfl) rfl rfl rfl (lt_ok rfl) ?_
  refine TL.goff 11 rfl rfl (lt_ok rfl) rfl rfl rfl (lt_ok rfl) ?_
  refine TL.goff 11 rfl rfl (lt_ok rfl) rfl rfl rfl (lt_ok rfl) ?_
  refine TL.goff 11 rfl rfl (lt_ok rfl) rfl rfl rfl (lt_ok rfl) ?_
  refine TL.goff 11 rfl rfl (lt_ok rfl) rfl rfl rfl (lt_ok rfl) ?_
  refine TL.goff 11 rfl rfl (lt_ok rfl) rfl rfl rfl (lt_ok rfl) ?_
  refine TL.cons rfl (Step.pick (b := false) (p := (.one (.d (.bool false)))) rfl rfl (lt_ok rfl) rfl rfl) ?_
  refine TL.cons rfl (Step.assign (p := (.one (.d (.bool false)))) rfl rfl (lt_ok rfl) rfl) ?_
  refine TL.nil ?_
  refine T.ret ?_
  refine ⟨[(false, [.d (.bool false)])], (.cons rfl .nil), rfl, [], (RetC.rd' ?_ .nil)⟩ <;> ((congr 1; symm; unfold bitHas; first | (rw [decide_eq_false (p := 0 ≤ i) (by omega)]; rfl) | (rw [decide_eq_true (p := 0 ≤ i) (by omega), decide_eq_false (p := i / 8 < (b.length : Int)) (by omega)]; rfl) | (rw [decide_eq_true (p := 0 ≤ i) (by omega), decide_eq_true (p := i / 8 < (b.length : Int)) (by omega)]; rfl) | (by_cases hi_ : 0 ≤ i; (rw [decide_eq_true (p := 0 ≤ i) (by omega), decide_eq_false (p := i / 8 < (b.length : Int)) (by omega)]; rfl); (rw [decide_eq_false (p := 0 ≤ i) hi_]; rfl))))
theorem ok_impl_BitsList (b : List Int) (h0_ : U8s b) (h1_ : b.length ≤ 1099511627776) : RO Try.prog 194 [.one (.ints .u8 b)] [(false, [.own 3 (.ints .i64 (bitList b))])] := by
 refine RO.intro Try.func194 rfl 21 rfl (le_ok rfl) fun w Z => ?_
 refine T.bnd 0 0 rfl rfl fun hb_0_0 => ?_
 simp only [D.size, List.length_map] at hb_0_0
 refine T.seq ?_
 refine T.region ?_
 refine TL.cons rfl (Step.assign (p := (.one (.nil))) rfl rfl (lt_ok rfl) rfl) ?_
 refine TL.nil ?_
 refine T.seq ?_
 refine T.region ?_
 refine TL.cons rfl (Step.lit (e := 3) (z := 1) (by_ := 8) (xs := []) (pss := []) (es := []) (ss := []) (d := (.ints .i64 [])) rfl rfl (lt_ok rfl) (by kernel_rfl) rfl rfl .nil (by simp) (le_ok rfl) (le_ok rfl) rfl .nil rfl (by simp) (by simp) rfl trivial rfl rfl) ?_
 refine TL.cons rfl (Step.assign (p := (.one (.row 5 []))) rfl rfl (lt_ok rfl) rfl) ?_
 refine TL.nil ?_
 refine T.seq ?_
 refine T.seq ?_
 refine T.region ?_
 refine TL.cons rfl (Step.move (p := (.one (.d (.ints .u8 b)))) rfl rfl (lt_ok rfl) rfl) ?_
 refine TL.cons rfl (Step.len (e := 5) (z := 1) (d := (.ints .u8 b)) rfl rfl (lt_ok rfl) (by kernel_rfl) rfl rfl) ?_
 refine TL.cons rfl (Step.bin (r := .int .i64 (8 * (b.length : Int))) rfl rfl (lt_ok rfl) rfl rfl (Bin.mul (a := 8) (b := (b.length : Int)) (by first | exact wrap_ok (by first | omega | (simp; omega)) (by first | omega | (simp; omega)) | rfl))) ?_
 refine TL.cons rfl (Step.move (p := (.one (.d (.int .i64 0)))) rfl rfl (lt_ok rfl) rfl) ?_
 refine TL.nil ?_
 refine T.block ?_
 refine T.loop (ι := Nat × (List Int)) (fun xx_ => { tm := [(0, (.one (.d (.ints .u8 b)))), (2, (.one (.nil))), (8, (.one (.d (.int .i64 (8 * (b.length : Int)))))), (9, (.one (.d (.int .i64 ((xx_.1) : Int))))), (3, (.one (.row 5 [])))], rows := [(5, (3, (.ints .i64 (xx_.2))))], boxes := [] }) (fun xx_ => (xx_.1) ≤ 8 * b.length ∧ (xx_.2) ++ bitsGo b (8 * b.length - (xx_.1)) (xx_.1) = bitList b ∧ (xx_.2).length ≤ (xx_.1)) (fun xx_ => 8 * b.length - (xx_.1)) (0, []) ?_ ?_ ?_
 · refine Env.le_mk ⟨rfl, rfl, rfl, ?_, rfl, trivial⟩ ⟨?_, trivial⟩ trivial <;> (first | rfl | (refine congrArg (fun x => some (_, D.ints .i64 x)) ?_; rfl) | (refine congrArg (fun n => PV.one (.d (.int .i64 n))) ?_; first | omega | (simp; done)))
 · (dsimp only; refine ⟨Nat.zero_le _, rfl, Nat.zero_le _⟩)
 ·
  intro xx_ hx
  obtain ⟨i, o⟩ := xx_
  try dsimp only at hx ⊢
  obtain ⟨hx1, hx2, hx3⟩ := hx
  refine T.seq ?_
  refine T.region ?_
  refine TL.cons rfl (Step.bin rfl rfl (lt_ok rfl) rfl rfl (Bin.lss (k := .i64) (a := (i : Int)) (b := (8 * (b.length : Int))))) ?_
  refine TL.nil ?_
  refine T.seq ?_
  refine T.cond (b := decide ((i : Int) < (8 * (b.length : Int)))) rfl (fun h1 => ?_) (fun h1 => ?_)
  ·
   replace h1 := of_decide_eq_true h1
   refine T.skip ?_
   refine T.seq ?_
   refine T.block ?_
   refine T.seq ?_
   refine T.region ?_
   refine TL.cons rfl (Step.move (p := (.one (.d (.int .i64 (i : Int))))) rfl rfl (lt_ok rfl) rfl) ?_
   refine TL.cons rfl (Step.assign (p := (.one (.d (.int .i64 (i : Int))))) rfl rfl (lt_ok rfl) rfl) ?_
   refine TL.nil ?_
   refine T.seq ?_
   refine T.region ?_
   refine TL.cons rfl (Step.move (p := (.one (.d (.ints .u8 b)))) rfl rfl (lt_ok rfl) rfl) ?_
   refine TL.cons rfl (Step.move (p := (.one (.d (.int .i64 (i : Int))))) rfl rfl (lt_ok rfl) rfl) ?_
   refine TL.cons rfl (Step.call (f := 197) (xs := [.tmp 12, .tmp 13]) (ps := [(.one (.d (.ints .u8 b))), (.one (.d (.int .i64 (i : Int))))]) false (g := .func 197) rfl rfl (lt_ok rfl) rfl (by kernel_rfl) rfl (.cons (.one (.d _)) (.cons (.one (.d _)) .nil)) (ok_impl_BitsHas b (i : Int) (by assumption) (by first | omega | assumption | (simp only [List.length_append] at *; omega)) (by first | omega | assumption | (simp only [List.length_append] at *; omega))) (.inr rfl) rfl (by simp) rfl) ?_
   refine TL.nil ?_
   refine T.cond (b := bitHas b (i : Int)) rfl (fun h2 => ?_) (fun h2 => ?_)
   ·
    refine T.region ?_
    refine TL.cons rfl (Step.move (p := (.one (.row 5 []))) rfl rfl (lt_ok rfl) rfl) ?_
    refine TL.cons rfl (Step.move (p := (.one (.d (.int .i64 (i : Int))))) rfl rfl (lt_ok rfl) rfl) ?_
    refine TL.cons rfl (Step.lit (e := 3) (z := 1) (by_ := 8) (xs := [.tmp 16]) (pss := [[.d (.int .i64 (i : Int))]]) (es := [(.int .i64 (i : Int))]) (ss := []) (d := (.ints .i64 [(i : Int)])) rfl rfl (lt_ok rfl) (by kernel_rfl) rfl rfl (.cons rfl .nil) (by simp) (le_ok rfl) (le_ok rfl) rfl (.val rfl .nil) rfl (by simp) (by simp) rfl trivial rfl rfl) ?_
    refine TL.cons rfl (Step.append (e := 3) (z := 1) (by_ := 8) (d := (.ints .i64 o)) (dy := (.ints .i64 [(i : Int)])) (d' := (.ints .i64 (o ++ [(i : Int)]))) (ss := []) rfl rfl (lt_ok rfl) (by kernel_rfl) rfl rfl rfl (lt_ok rfl) rfl (.copy rfl rfl rfl (by simp [D.flat, D.val])) (by simp) rfl (by simp only [D.size, List.length_map]; first | omega | (simp; omega) | (simp only [List.length_append] at *; omega)) (by simp only [D.size, List.length_map]; first | omega | (simp; omega) | (simp only [List.length_append] at *; omega)) (by simp)) ?_
    refine TL.cons rfl (Step.assign (p := (.one (.row 5 []))) rfl rfl (lt_ok rfl) rfl) ?_
    refine TL.nil ?_
    refine T.region ?_
    refine TL.cons rfl (Step.bin (r := .int .i64 ((i : Int) + 1)) rfl rfl (lt_ok rfl) rfl rfl (Bin.add (a := (i : Int)) (b := 1) (by first | exact wrap_ok (by first | omega | (simp; omega)) (by first | omega | (simp; omega)) | rfl))) ?_
    refine TL.cons rfl (Step.move (p := (.one (.d (.int .i64 ((i : Int) + 1))))) rfl rfl (lt_ok rfl) rfl) ?_
    refine TL.nil ?_
    refine ⟨(i + 1, o ++ [(i : Int)]), by (refine ⟨by omega, ?_, by simp only [List.length_append, List.length_cons, List.length_nil]; omega⟩; rw [← hx2, bitsGo_next b (n := 8 * b.length) (i := i) (by omega)]; first | (rw [if_pos (by assumption)]; simp only [List.append_assoc]; done) | (rw [if_neg (by simp [*])]; rfl)), by (dsimp only; omega), Env.le_mk ⟨rfl, rfl, rfl, ?_, rfl, trivial⟩ ⟨?_, trivial⟩ trivial⟩ <;> (first | rfl | (refine congrArg (fun x => some (_, D.ints .i64 x)) ?_; rfl) | (refine congrArg (fun n => PV.one (.d (.int .i64 n))) ?_; first | omega | (simp; done)))
   ·
    refine T.skip ?_
    refine T.region ?_
    refine TL.cons rfl (Step.bin (r := .int .i64 ((i : Int) + 1)) rfl rfl (lt_ok rfl) rfl rfl (Bin.add (a := (i : Int)) (b := 1) (by first | exact wrap_ok (by first | omega | (simp; omega)) (by first | omega | (simp; omega)) | rfl))) ?_
    refine TL.cons rfl (Step.move (p := (.one (.d (.int .i64 ((i : Int) + 1))))) rfl rfl (lt_ok rfl) rfl) ?_
    refine TL.nil ?_
    refine ⟨(i + 1, o), by (refine ⟨by omega, ?_, by simp only [List.length_append, List.length_cons, List.length_nil]; omega⟩; rw [← hx2, bitsGo_next b (n := 8 * b.length) (i := i) (by omega)]; first | (rw [if_pos (by assumption)]; simp only [List.append_assoc]; done) | (rw [if_neg (by simp [*])]; rfl)), by (dsimp only; omega), Env.le_mk ⟨rfl, rfl, rfl, ?_, rfl, trivial⟩ ⟨rfl, trivial⟩ trivial⟩ <;> (first | rfl | (refine congrArg (fun x => some (_, D.ints .i64 x)) ?_; rfl) | (refine congrArg (fun n => PV.one (.d (.int .i64 n))) ?_; first | omega | (simp; done)))
  ·
   replace h1 := of_decide_eq_false h1
   refine T.exit ?_
   refine T.seq ?_
   refine T.region ?_
   refine TL.cons rfl (Step.move (p := (.one (.row 5 []))) rfl rfl (lt_ok rfl) rfl) ?_
   refine TL.cons rfl (Step.assign (p := (.one (.row 5 []))) rfl rfl (lt_ok rfl) rfl) ?_
   refine TL.nil ?_
   refine T.ret ?_
   refine ⟨[(false, [.row 5 []])], (.cons rfl .nil), rfl, [5], (RetC.own' rfl ?_ rfl .nil)⟩ <;> ((congr 1; rw [← hx2, bitsGo_end b (by omega), List.append_nil]))
theorem ok_impl_BitsOk (b : List Int) (n : Int) (h0_ : U8s b) (h1_ : b.length ≤ 1099511627776) : RO Try.prog 174 [.one (.ints .u8 b), .one (.int .i64 n)] [(false, [.rd (.bool (bitsOk b n))])] := by
 refine RO.intro Try.func174 rfl 28 rfl (le_ok rfl) fun w Z => ?_
 refine T.bnd 0 0 rfl rfl fun hb_0_0 => ?_
 simp only [D.size, List.length_map] at hb_0_0
 refine T.seq ?_
 refine T.region ?_
 refine TL.cons rfl (Step.assign (p := (.one (.d (.bool false)))) rfl rfl (lt_ok rfl) rfl) ?_
 refine TL.nil ?_
 refine T.seq ?_
 refine T.seq ?_
 refine T.region ?_
 refine TL.cons rfl (Step.move (p := (.one (.d (.int .i64 n)))) rfl rfl (lt_ok rfl) rfl) ?_
 refine TL.cons rfl (Step.call (f := 117) (xs := [.tmp 7, .const (.int .i64 1), .const (.int .i64 10)]) (ps := [(.one (.d (.int .i64 n))), (.one (.d (.int .i64 1))), (.one (.d (.int .i64 10)))]) false (g := .func 117) rfl rfl (lt_ok rfl) rfl (by kernel_rfl) rfl (.cons (.one (.d _)) (.cons (.one (.d _)) (.cons (.one (.d _)) .nil))) (ok_impl_within n 1 10) (.inr rfl) rfl (by simp) rfl) ?_
 refine TL.cons rfl (Step.not (b := (decide (1 ≤ n ∧ n ≤ 10))) rfl rfl (lt_ok rfl) rfl) ?_
 refine TL.cons rfl (Step.move (p := (.one (.d (.bool (!(decide (1 ≤ n ∧ n ≤ 10))))))) rfl rfl (lt_ok rfl) rfl) ?_
 rcases Bool.eq_false_or_eq_true (!(decide (1 ≤ n ∧ n ≤ 10))) with hb1 | hb1
 ·
  refine TL.known 10 hb1 rfl ?_
  have hb1' := hb1
  replace hb1' : (decide (1 ≤ n ∧ n ≤ 10)) = false := by simpa only [Bool.not_eq_true', Bool.not_eq_false'] using hb1'
  replace hb1' := of_decide_eq_false hb1'
  refine TL.goff 10 rfl rfl (lt_ok rfl) rfl rfl rfl (lt_ok rfl) ?_
  refine TL.goff 10 rfl rfl (lt_ok rfl) rfl rfl rfl (lt_ok rfl) ?_
  refine TL.goff 10 rfl rfl (lt_ok rfl) rfl rfl rfl (lt_ok rfl) ?_
  refine TL.goff 10 rfl rfl (lt_ok rfl) rfl rfl rfl (lt_ok rfl) ?_
  refine TL.goff 10 rfl rfl (lt_ok rfl) rfl rfl rfl (lt_ok rfl) ?_
  refine TL.cons rfl (Step.pick (b := true) (p := (.one (.d (.bool true)))) rfl rfl (lt_ok rfl) rfl rfl) ?_
  refine TL.nil ?_
  refine T.cond (b := true) rfl (fun h2_ => ?_) (fun h2_ => absurd h2_ (by simp))
  refine T.seq ?_
  refine T.region ?_
  refine TL.cons rfl (Step.assign (p := (.one (.d (.bool false)))) rfl rfl (lt_ok rfl) rfl) ?_
  refine TL.nil ?_
  refine T.ret ?_
  refine ⟨[(false, [.d (.bool false)])], (.cons rfl .nil), rfl, [], (RetC.rd' ?_ .nil)⟩ <;> (first | (congr 1; symm; simp only [bitsOk, *, Bool.and_true, Bool.true_and, Bool.and_false, Bool.false_and, decide_true, decide_false, and_true, true_and, and_self, and_false, false_and, Bool.and_self, not_true, not_false, Bool.not_true, Bool.not_false, ge_iff_le, gt_iff_lt, if_true, if_false, Bool.false_eq_true, ite_true, ite_false, reduceIte]; done) | (congr 1; symm; unfold bitsOk; rw [decide_eq_false (p := (1 ≤ n ∧ n ≤ 10)) (by omega)]; rfl) | (congr 1; symm; unfold bitsOk; rw [decide_eq_false (p := ((b.length : Int) = bitsSize n)) (by omega)]; simp; done) | (congr 1; symm; unfold bitsOk; rw [all_no (i := i) (by omega) (by omega)]; simp; done) | (congr 1; symm; unfold bitsOk; rw [List.take_of_length_le (by omega)] at hx2; rw [hx2, decide_eq_true (p := (1 ≤ n ∧ n ≤ 10)) (by omega), decide_eq_true (p := ((b.length : Int) = bitsSize n)) (by omega)]; rfl))
 ·
  refine TL.known 10 hb1 rfl ?_
  have hb1' := hb1
  replace hb1' : (decide (1 ≤ n ∧ n ≤ 10)) = true := by simpa only [Bool.not_eq_true', Bool.not_eq_false'] using hb1'
  replace hb1' := of_decide_eq_true hb1'
  refine TL.gyes 10 rfl rfl (lt_ok rfl) rfl (Step.move (p := (.one (.d (.ints .u8 b)))) rfl rfl (lt_ok rfl) rfl) ?_
  refine TL.gyes 10 rfl rfl (lt_ok rfl) rfl (Step.len (e := 5) (z := 1) (d := (.ints .u8 b)) rfl rfl (lt_ok rfl) (by kernel_rfl) rfl rfl) ?_
  refine TL.gyes 10 rfl rfl (lt_ok rfl) rfl (Step.move (p := (.one (.d (.int .i64 n)))) rfl rfl (lt_ok rfl) rfl) ?_
  refine TL.gyes 10 rfl rfl (lt_ok rfl) rfl (Step.call (f := 182) (xs := [.tmp 13]) (ps := [(.one (.d (.int .i64 n)))]) false (g := .func 182) rfl rfl (lt_ok rfl) rfl (by kernel_rfl) rfl (.cons (.one (.d _)) .nil) (ok_impl_BitsSize n (by first | omega | assumption | (simp only [List.length_append] at *; omega))) (.inr rfl) rfl (by simp) rfl) ?_
  refine TL.gyes 10 rfl rfl (lt_ok rfl) rfl (Step.bin rfl rfl (lt_ok rfl) rfl rfl (Bin.neq (k := .i64) (a := (b.length : Int)) (b := (bitsSize n)))) ?_
  refine TL.cons rfl (Step.pick (b := false) (p := (.one (.d (.bool (decide ((b.length : Int) ≠ (bitsSize n))))))) rfl rfl (lt_ok rfl) rfl rfl) ?_
  refine TL.nil ?_
  refine T.cond (b := decide ((b.length : Int) ≠ (bitsSize n))) rfl (fun h3 => ?_) (fun h3 => ?_)
  ·
   replace h3 := of_decide_eq_true h3
   refine T.seq ?_
   refine T.region ?_
   refine TL.cons rfl (Step.assign (p := (.one (.d (.bool false)))) rfl rfl (lt_ok rfl) rfl) ?_
   refine TL.nil ?_
   refine T.ret ?_
   refine ⟨[(false, [.d (.bool false)])], (.cons rfl .nil), rfl, [], (RetC.rd' ?_ .nil)⟩ <;> (first | (congr 1; symm; simp only [bitsOk, *, Bool.and_true, Bool.true_and, Bool.and_false, Bool.false_and, decide_true, decide_false, and_true, true_and, and_self, and_false, false_and, Bool.and_self, not_true, not_false, Bool.not_true, Bool.not_false, ge_iff_le, gt_iff_lt, if_true, if_false, Bool.false_eq_true, ite_true, ite_false, reduceIte]; done) | (congr 1; symm; unfold bitsOk; rw [decide_eq_false (p := (1 ≤ n ∧ n ≤ 10)) (by omega)]; rfl) | (congr 1; symm; unfold bitsOk; rw [decide_eq_false (p := ((b.length : Int) = bitsSize n)) (by omega)]; simp; done) | (congr 1; symm; unfold bitsOk; rw [all_no (i := i) (by omega) (by omega)]; simp; done) | (congr 1; symm; unfold bitsOk; rw [List.take_of_length_le (by omega)] at hx2; rw [hx2, decide_eq_true (p := (1 ≤ n ∧ n ≤ 10)) (by omega), decide_eq_true (p := ((b.length : Int) = bitsSize n)) (by omega)]; rfl))
  ·
   replace h3 := of_decide_eq_false h3
   refine T.skip ?_
   refine T.seq ?_
   refine T.seq ?_
   refine T.region ?_
   refine TL.cons rfl (Step.move (p := (.one (.d (.ints .u8 b)))) rfl rfl (lt_ok rfl) rfl) ?_
   have nn4 := bitList_len b
   refine TL.cons rfl (Step.call (f := 194) (xs := [.tmp 17]) (ps := [(.one (.d (.ints .u8 b)))]) false (g := .func 194) rfl rfl (lt_ok rfl) rfl (by kernel_rfl) rfl (.cons (.one (.d _)) .nil) (ok_impl_BitsList b (by assumption) (by first | omega | assumption | (simp only [List.length_append] at *; omega))) (.inr rfl) rfl (by simp) rfl) ?_
   refine TL.cons rfl (Step.len (e := 3) (z := 1) (d := (.ints .i64 (bitList b))) rfl rfl (lt_ok rfl) (by kernel_rfl) rfl rfl) ?_
   refine TL.cons rfl (Step.move (p := (.one (.d (.int .i64 0)))) rfl rfl (lt_ok rfl) rfl) ?_
   refine TL.nil ?_
   refine T.block ?_
   refine T.loop (ι := Nat) (fun xx_ => { tm := [(1, (.one (.d (.int .i64 n)))), (18, (.one (.row 1018 []))), (19, (.one (.d (.int .i64 ((bitList b).length : Int))))), (20, (.one (.d (.int .i64 (xx_ : Int)))))], rows := [(1018, (3, (.ints .i64 (bitList b))))], boxes := [] }) (fun xx_ => xx_ ≤ (bitList b).length ∧ ((bitList b).take xx_).all (fun x => decide (x < n)) = true) (fun xx_ => (bitList b).length - xx_) 0 ?_ ?_ ?_
   · refine Env.le_mk ⟨rfl, rfl, rfl, ?_, trivial⟩ ⟨rfl, trivial⟩ trivial <;> (first | rfl | (simp; done) | (congr 3; omega))
   · (refine ⟨Nat.zero_le _, by rw [List.take_zero]; rfl⟩)
   ·
    intro i hx
    try dsimp only at hx ⊢
    obtain ⟨hx1, hx2⟩ := hx
    refine T.seq ?_
    refine T.region ?_
    refine TL.cons rfl (Step.bin rfl rfl (lt_ok rfl) rfl rfl (Bin.lss (k := .i64) (a := (i : Int)) (b := ((bitList b).length : Int)))) ?_
    refine TL.nil ?_
    refine T.seq ?_
    refine T.cond (b := decide ((i : Int) < ((bitList b).length : Int))) rfl (fun h5 => ?_) (fun h5 => ?_)
    ·
     replace h5 := of_decide_eq_true h5
     refine T.skip ?_
     refine T.seq ?_
     refine T.block ?_
     refine T.seq ?_
     refine T.region ?_
     refine TL.cons rfl (Step.index_row (e := 3) (z := 1) (i := (i : Int)) rfl rfl (lt_ok rfl) (by kernel_rfl) rfl rfl rfl rfl (lt_ok rfl) rfl (by first | omega | (simp; omega)) (by simp only [D.at_, D.cell, D.size]; first | omega | (simp; omega))) ?_
     refine TL.cons rfl (Step.load_row (c := .d (.int .i64 ((bitList b).getD i 0))) rfl rfl (lt_ok rfl) (by kernel_rfl) rfl rfl rfl) ?_
     refine TL.cons rfl (Step.assign (p := (.one (.d (.int .i64 ((bitList b).getD i 0))))) rfl rfl (lt_ok rfl) rfl) ?_
     refine TL.nil ?_
     refine T.seq ?_
     refine T.region ?_
     refine TL.cons rfl (Step.move (p := (.one (.d (.int .i64 ((bitList b).getD i 0))))) rfl rfl (lt_ok rfl) rfl) ?_
     refine TL.cons rfl (Step.move (p := (.one (.d (.int .i64 n)))) rfl rfl (lt_ok rfl) rfl) ?_
     refine TL.cons rfl (Step.bin rfl rfl (lt_ok rfl) rfl rfl (Bin.geq (k := .i64) (a := ((bitList b).getD i 0)) (b := n))) ?_
     refine TL.nil ?_
     refine T.cond (b := decide (n ≤ ((bitList b).getD i 0))) rfl (fun h6 => ?_) (fun h6 => ?_)
     ·
      replace h6 := of_decide_eq_true h6
      refine T.seq ?_
      refine T.region ?_
      refine TL.cons rfl (Step.assign (p := (.one (.d (.bool false)))) rfl rfl (lt_ok rfl) rfl) ?_
      refine TL.nil ?_
      refine T.ret ?_
      refine ⟨[(false, [.d (.bool false)])], (.cons rfl .nil), rfl, [], (RetC.rd' ?_ .nil)⟩ <;> (first | (congr 1; symm; simp only [bitsOk, *, Bool.and_true, Bool.true_and, Bool.and_false, Bool.false_and, decide_true, decide_false, and_true, true_and, and_self, and_false, false_and, Bool.and_self, not_true, not_false, Bool.not_true, Bool.not_false, ge_iff_le, gt_iff_lt, if_true, if_false, Bool.false_eq_true, ite_true, ite_false, reduceIte]; done) | (congr 1; symm; unfold bitsOk; rw [decide_eq_false (p := (1 ≤ n ∧ n ≤ 10)) (by omega)]; rfl) | (congr 1; symm; unfold bitsOk; rw [decide_eq_false (p := ((b.length : Int) = bitsSize n)) (by omega)]; simp; done) | (congr 1; symm; unfold bitsOk; rw [all_no (i := i) (by omega) (by omega)]; simp; done) | (congr 1; symm; unfold bitsOk; rw [List.take_of_length_le (by omega)] at hx2; rw [hx2, decide_eq_true (p := (1 ≤ n ∧ n ≤ 10)) (by omega), decide_eq_true (p := ((b.length : Int) = bitsSize n)) (by omega)]; rfl))
     ·
      replace h6 := of_decide_eq_false h6
      refine T.skip ?_
      refine T.region ?_
      refine TL.cons rfl (Step.bin (r := .int .i64 ((i : Int) + 1)) rfl rfl (lt_ok rfl) rfl rfl (Bin.add (a := (i : Int)) (b := 1) (by first | exact wrap_ok (by first | omega | (simp; omega)) (by first | omega | (simp; omega)) | rfl))) ?_
      refine TL.cons rfl (Step.move (p := (.one (.d (.int .i64 ((i : Int) + 1))))) rfl rfl (lt_ok rfl) rfl) ?_
      refine TL.nil ?_
      refine ⟨i + 1, by (refine ⟨by omega, all_step (by omega) hx2 (by omega)⟩), by first | omega | (dsimp only; omega), Env.le_mk ⟨rfl, rfl, rfl, ?_, trivial⟩ ⟨rfl, trivial⟩ trivial⟩ <;> (first | rfl | (simp; done) | (congr 3; omega))
    ·
     replace h5 := of_decide_eq_false h5
     refine T.exit ?_
     refine T.seq ?_
     refine T.region ?_
     refine TL.cons rfl (Step.assign (p := (.one (.d (.bool true)))) rfl rfl (lt_ok rfl) rfl) ?_
     refine TL.nil ?_
     refine T.ret ?_
     refine ⟨[(false, [.d (.bool true)])], (.cons rfl .nil), rfl, [], (RetC.rd' ?_ .nil)⟩ <;> (first | (congr 1; symm; simp only [bitsOk, *, Bool.and_true, Bool.true_and, Bool.and_false, Bool.false_and, decide_true, decide_false, and_true, true_and, and_self, and_false, false_and, Bool.and_self, not_true, not_false, Bool.not_true, Bool.not_false, ge_iff_le, gt_iff_lt, if_true, if_false, Bool.false_eq_true, ite_true, ite_false, reduceIte]; done) | (congr 1; symm; unfold bitsOk; rw [decide_eq_false (p := (1 ≤ n ∧ n ≤ 10)) (by omega)]; rfl) | (congr 1; symm; unfold bitsOk; rw [decide_eq_false (p := ((b.length : Int) = bitsSize n)) (by omega)]; simp; done) | (congr 1; symm; unfold bitsOk; rw [all_no (i := i) (by omega) (by omega)]; simp; done) | (congr 1; symm; unfold bitsOk; rw [List.take_of_length_le (by omega)] at hx2; rw [hx2, decide_eq_true (p := (1 ≤ n ∧ n ≤ 10)) (by omega), decide_eq_true (p := ((b.length : Int) = bitsSize n)) (by omega)]; rfl))
theorem ok_impl_GetBits (b : List Int) (a : Int) (n : Int) (h0_ : U8s b) (h1_ : b.length ≤ 1048576) : RO Try.prog 138 [.one (.ints .u8 b), .one (.int .i64 a), .one (.int .i64 n)] [(false, [.own 5 (.ints .u8 (getBits b a n).1)]), (false, [.rd (.int .i64 (getBits b a n).2.1)]), (false, [.rd (.int .i64 (getBits b a n).2.2)])] := by
 refine RO.intro Try.func138 rfl 33 rfl (le_ok rfl) fun w Z => ?_
 refine T.bnd 0 0 rfl rfl fun hb_0_0 => ?_
 simp only [D.size, List.length_map] at hb_0_0
 have hu_ := getRaw_u8 h0_ a (bitsSize n)
 refine T.seq ?_
 refine T.region ?_
 refine TL.cons rfl (Step.assign (p := (.one (.nil))) rfl rfl (lt_ok rfl) rfl) ?_
 refine TL.cons rfl (Step.assign (p := (.one (.d (.int .i64 0)))) rfl rfl (lt_ok rfl) rfl) ?_
 refine TL.cons rfl (Step.assign (p := (.one (.d (.int .i64 0)))) rfl rfl (lt_ok rfl) rfl) ?_
 refine TL.nil ?_
 refine T.seq ?_
 refine T.seq ?_
 refine T.region ?_
 refine TL.cons rfl (Step.move (p := (.one (.d (.int .i64 n)))) rfl rfl (lt_ok rfl) rfl) ?_
 refine TL.cons rfl (Step.call (f := 117) (xs := [.tmp 12, .const (.int .i64 1), .const (.int .i64 10)]) (ps := [(.one (.d (.int .i64 n))), (.one (.d (.int .i64 1))), (.one (.d (.int .i64 10)))]) false (g := .func 117) rfl rfl (lt_ok rfl) rfl (by kernel_rfl) rfl (.cons (.one (.d _)) (.cons (.one (.d _)) (.cons (.one (.d _)) .nil))) (ok_impl_within n 1 10) (.inr rfl) rfl (by simp) rfl) ?_
 refine TL.cons rfl (Step.not (b := (decide (1 ≤ n ∧ n ≤ 10))) rfl rfl (lt_ok rfl) rfl) ?_
 refine TL.nil ?_
 refine T.cond (b := !(decide (1 ≤ n ∧ n ≤ 10))) rfl (fun h1 => ?_) (fun h1 => ?_)
 ·
  replace h1 : (decide (1 ≤ n ∧ n ≤ 10)) = false := by simpa only [Bool.not_eq_true', Bool.not_eq_false'] using h1
  replace h1 := of_decide_eq_false h1
  refine T.seq ?_
  refine T.region ?_
  refine TL.cons rfl (Step.assign (p := (.one (.nil))) rfl rfl (lt_ok rfl) rfl) ?_
  refine TL.cons rfl (Step.assign (p := (.one (.d (.int .i64 0)))) rfl rfl (lt_ok rfl) rfl) ?_
  refine TL.cons rfl (Step.assign (p := (.one (.d (.int .i64 5)))) rfl rfl (lt_ok rfl) rfl) ?_
  refine TL.nil ?_
  refine T.ret ?_
  refine ⟨[(false, [.nil]), (false, [.d (.int .i64 0)]), (false, [.d (.int .i64 5)])], (.cons rfl (.cons rfl (.cons rfl .nil))), rfl, [], (RetC.nilown' rfl ?_ (by first | exact trivial | exact D.wf_nil _) (RetC.rd' ?_ (RetC.rd' ?_ .nil)))⟩ <;> ((first | (congr 1; first | (rw [getBits_val (by omega)]; first | done | rfl) | (rw [getBits_er (by omega) (by omega)]; first | done | rfl) | (rw [getBits_pad (by omega) (by omega) (by assumption)]; first | done | rfl) | (rw [getBits_ok (by omega) (by omega) (by assumption)]; first | done | rfl)) | (simp only [D.size]; first | (rw [getBits_val (by omega)]; first | done | rfl) | (rw [getBits_er (by omega) (by omega)]; first | done | rfl) | (rw [getBits_pad (by omega) (by omega) (by assumption)]; first | done | rfl) | (rw [getBits_ok (by omega) (by omega) (by assumption)]; first | done | rfl))))
 ·
  replace h1 : (decide (1 ≤ n ∧ n ≤ 10)) = true := by simpa only [Bool.not_eq_true', Bool.not_eq_false'] using h1
  replace h1 := of_decide_eq_true h1
  refine T.skip ?_
  refine T.seq ?_
  refine T.region ?_
  refine TL.cons rfl (Step.move (p := (.one (.d (.ints .u8 b)))) rfl rfl (lt_ok rfl) rfl) ?_
  refine TL.cons rfl (Step.move (p := (.one (.d (.int .i64 a)))) rfl rfl (lt_ok rfl) rfl) ?_
  refine TL.cons rfl (Step.move (p := (.one (.d (.int .i64 n)))) rfl rfl (lt_ok rfl) rfl) ?_
  refine TL.cons rfl (Step.call (f := 182) (xs := [.tmp 18]) (ps := [(.one (.d (.int .i64 n)))]) false (g := .func 182) rfl rfl (lt_ok rfl) rfl (by kernel_rfl) rfl (.cons (.one (.d _)) .nil) (ok_impl_BitsSize n (by first | omega | assumption | (simp only [List.length_append] at *; omega))) (.inr rfl) rfl (by simp) rfl) ?_
  have nn2 := getRaw_bd b a (bitsSize n)
  refine TL.cons rfl (Step.call (f := 181) (xs := [.tmp 16, .tmp 17, .tmp 19]) (ps := [(.one (.d (.ints .u8 b))), (.one (.d (.int .i64 a))), (.one (.d (.int .i64 (bitsSize n))))]) false (g := .func 181) rfl rfl (lt_ok rfl) rfl (by kernel_rfl) rfl (.cons (.one (.d _)) (.cons (.one (.d _)) (.cons (.one (.d _)) .nil))) (ok_impl_GetRaw b a (bitsSize n) (by first | omega | assumption | (simp only [List.length_append] at *; omega))) (.inr rfl) rfl (by simp) rfl) ?_
  refine TL.cons rfl (Step.move (p := (.tup [(false, [.row 1020 []]), (false, [.d (.int .i64 (getRaw b a (bitsSize n)).2.1)]), (false, [.d (.int .i64 (getRaw b a (bitsSize n)).2.2)])])) rfl rfl (lt_ok rfl) rfl) ?_
  refine TL.cons rfl (Step.extract (p := (.one (.row 1020 []))) rfl rfl (lt_ok rfl) rfl rfl) ?_
  refine TL.cons rfl (Step.extract (p := (.one (.d (.int .i64 (getRaw b a (bitsSize n)).2.1)))) rfl rfl (lt_ok rfl) rfl rfl) ?_
  refine TL.cons rfl (Step.extract (p := (.one (.d (.int .i64 (getRaw b a (bitsSize n)).2.2)))) rfl rfl (lt_ok rfl) rfl rfl) ?_
  refine TL.cons rfl (Step.assign (p := (.one (.row 1020 []))) rfl rfl (lt_ok rfl) rfl) ?_
  refine TL.cons rfl (Step.assign (p := (.one (.d (.int .i64 (getRaw b a (bitsSize n)).2.1)))) rfl rfl (lt_ok rfl) rfl) ?_
  refine TL.cons rfl (Step.assign (p := (.one (.d (.int .i64 (getRaw b a (bitsSize n)).2.2)))) rfl rfl (lt_ok rfl) rfl) ?_
  refine TL.nil ?_
  refine T.seq ?_
  refine T.seq ?_
  refine T.region ?_
  refine TL.cons rfl (Step.move (p := (.one (.d (.int .i64 (getRaw b a (bitsSize n)).2.2)))) rfl rfl (lt_ok rfl) rfl) ?_
  refine TL.cons rfl (Step.bin rfl rfl (lt_ok rfl) rfl rfl (Bin.neq (k := .i64) (a := (getRaw b a (bitsSize n)).2.2) (b := 0))) ?_
  refine TL.nil ?_
  refine T.cond (b := decide ((getRaw b a (bitsSize n)).2.2 ≠ 0)) rfl (fun h3 => ?_) (fun h3 => ?_)
  ·
   replace h3 := of_decide_eq_true h3
   refine T.seq ?_
   refine T.region ?_
   refine TL.cons rfl (Step.move (p := (.one (.d (.int .i64 (getRaw b a (bitsSize n)).2.2)))) rfl rfl (lt_ok rfl) rfl) ?_
   refine TL.cons rfl (Step.assign (p := (.one (.nil))) rfl rfl (lt_ok rfl) rfl) ?_
   refine TL.cons rfl (Step.assign (p := (.one (.d (.int .i64 0)))) rfl rfl (lt_ok rfl) rfl) ?_
   refine TL.cons rfl (Step.assign (p := (.one (.d (.int .i64 (getRaw b a (bitsSize n)).2.2)))) rfl rfl (lt_ok rfl) rfl) ?_
   refine TL.nil ?_
   refine T.ret ?_
   refine ⟨[(false, [.nil]), (false, [.d (.int .i64 0)]), (false, [.d (.int .i64 (getRaw b a (bitsSize n)).2.2)])], (.cons rfl (.cons rfl (.cons rfl .nil))), rfl, [], (RetC.nilown' rfl ?_ (by first | exact trivial | exact D.wf_nil _) (RetC.rd' ?_ (RetC.rd' ?_ .nil)))⟩ <;> ((first | (congr 1; first | (rw [getBits_val (by omega)]; first | done | rfl) | (rw [getBits_er (by omega) (by omega)]; first | done | rfl) | (rw [getBits_pad (by omega) (by omega) (by assumption)]; first | done | rfl) | (rw [getBits_ok (by omega) (by omega) (by assumption)]; first | done | rfl)) | (simp only [D.size]; first | (rw [getBits_val (by omega)]; first | done | rfl) | (rw [getBits_er (by omega) (by omega)]; first | done | rfl) | (rw [getBits_pad (by omega) (by omega) (by assumption)]; first | done | rfl) | (rw [getBits_ok (by omega) (by omega) (by assumption)]; first | done | rfl))))
  ·
   replace h3 := of_decide_eq_false h3
   refine T.skip ?_
   refine T.seq ?_
   refine T.seq ?_
   refine T.region ?_
   refine TL.cons rfl (Step.move (p := (.one (.row 1020 []))) rfl rfl (lt_ok rfl) rfl) ?_
   refine TL.cons rfl (Step.move (p := (.one (.d (.int .i64 n)))) rfl rfl (lt_ok rfl) rfl) ?_
   refine TL.cons rfl (Step.call (f := 174) (xs := [.tmp 27, .tmp 28]) (ps := [(.one (.row 1020 [])), (.one (.d (.int .i64 n)))]) false (g := .func 174) rfl rfl (lt_ok rfl) rfl (by kernel_rfl) rfl (.cons (.one (.row rfl rfl rfl rfl)) (.cons (.one (.d _)) .nil)) (ok_impl_BitsOk (getRaw b a (bitsSize n)).1 n (by assumption) (by first | omega | assumption | (simp only [List.length_append] at *; omega))) (.inr rfl) rfl (by simp) rfl) ?_
   refine TL.cons rfl (Step.not (b := (bitsOk (getRaw b a (bitsSize n)).1 n)) rfl rfl (lt_ok rfl) rfl) ?_
   refine TL.nil ?_
   refine T.cond (b := !(bitsOk (getRaw b a (bitsSize n)).1 n)) rfl (fun h4 => ?_) (fun h4 => ?_)
   ·
    replace h4 : (bitsOk (getRaw b a (bitsSize n)).1 n) = false := by simpa only [Bool.not_eq_true', Bool.not_eq_false'] using h4
    refine T.seq ?_
    refine T.region ?_
    refine TL.cons rfl (Step.assign (p := (.one (.nil))) rfl rfl (lt_ok rfl) rfl) ?_
    refine TL.cons rfl (Step.assign (p := (.one (.d (.int .i64 0)))) rfl rfl (lt_ok rfl) rfl) ?_
    refine TL.cons rfl (Step.assign (p := (.one (.d (.int .i64 4)))) rfl rfl (lt_ok rfl) rfl) ?_
    refine TL.nil ?_
    refine T.ret ?_
    refine ⟨[(false, [.nil]), (false, [.d (.int .i64 0)]), (false, [.d (.int .i64 4)])], (.cons rfl (.cons rfl (.cons rfl .nil))), rfl, [], (RetC.nilown' rfl ?_ (by first | exact trivial | exact D.wf_nil _) (RetC.rd' ?_ (RetC.rd' ?_ .nil)))⟩ <;> ((first | (congr 1; first | (rw [getBits_val (by omega)]; first | done | rfl) | (rw [getBits_er (by omega) (by omega)]; first | done | rfl) | (rw [getBits_pad (by omega) (by omega) (by assumption)]; first | done | rfl) | (rw [getBits_ok (by omega) (by omega) (by assumption)]; first | done | rfl)) | (simp only [D.size]; first | (rw [getBits_val (by omega)]; first | done | rfl) | (rw [getBits_er (by omega) (by omega)]; first | done | rfl) | (rw [getBits_pad (by omega) (by omega) (by assumption)]; first | done | rfl) | (rw [getBits_ok (by omega) (by omega) (by assumption)]; first | done | rfl))))
   ·
    replace h4 : (bitsOk (getRaw b a (bitsSize n)).1 n) = true := by simpa only [Bool.not_eq_true', Bool.not_eq_false'] using h4
    refine T.skip ?_
    refine T.seq ?_
    refine T.region ?_
    refine TL.cons rfl (Step.move (p := (.one (.row 1020 []))) rfl rfl (lt_ok rfl) rfl) ?_
    refine TL.cons rfl (Step.move (p := (.one (.d (.int .i64 (getRaw b a (bitsSize n)).2.1)))) rfl rfl (lt_ok rfl) rfl) ?_
    refine TL.cons rfl (Step.assign (p := (.one (.row 1020 []))) rfl rfl (lt_ok rfl) rfl) ?_
    refine TL.cons rfl (Step.assign (p := (.one (.d (.int .i64 (getRaw b a (bitsSize n)).2.1)))) rfl rfl (lt_ok rfl) rfl) ?_
    refine TL.cons rfl (Step.assign (p := (.one (.d (.int .i64 0)))) rfl rfl (lt_ok rfl) rfl) ?_
    refine TL.nil ?_
    refine T.ret ?_
    refine ⟨[(false, [.row 1020 []]), (false, [.d (.int .i64 (getRaw b a (bitsSize n)).2.1)]), (false, [.d (.int .i64 0)])], (.cons rfl (.cons rfl (.cons rfl .nil))), rfl, [1020], (RetC.own' rfl ?_ rfl (RetC.rd' ?_ (RetC.rd' ?_ .nil)))⟩ <;> ((first | (congr 1; first | (rw [getBits_val (by omega)]; first | done | rfl) | (rw [getBits_er (by omega) (by omega)]; first | done | rfl) | (rw [getBits_pad (by omega) (by omega) (by assumption)]; first | done | rfl) | (rw [getBits_ok (by omega) (by omega) (by assumption)]; first | done | rfl)) | (simp only [D.size]; first | (rw [getBits_val (by omega)]; first | done | rfl) | (rw [getBits_er (by omega) (by omega)]; first | done | rfl) | (rw [getBits_pad (by omega) (by omega) (by assumption)]; first | done | rfl) | (rw [getBits_ok (by omega) (by omega) (by assumption)]; first | done | rfl))))
theorem ok_math_bits_OnesCount8 (x : Int) (h0_ : 0 ≤ x ∧ x ≤ 255) : RO Try.prog 183 [.one (.int .u8 x)] [(false, [.rd (.int .i64 (ones x))])] := by
 refine RO.intro Try.func183 rfl 6 rfl (le_ok rfl) fun w Z => ?_
 have ho_ := ones_bd x
 refine T.seq ?_
 refine T.region ?_
 refine TL.cons rfl (Step.assign (p := (.one (.d (.int .i64 0)))) rfl rfl (lt_ok rfl) rfl) ?_
 refine TL.nil ?_
 refine T.seq ?_
 refine T.region ?_
 refine TL.cons rfl (Step.move (p := (.one (.d (.int .u8 x)))) rfl rfl (lt_ok rfl) rfl) ?_
 refine TL.cons rfl (Step.index_str (c := (ones x)) rfl rfl (lt_ok rfl) (by kernel_rfl) rfl rfl (by first | omega | (simp; omega)) (by obtain ⟨n, hn⟩ : ∃ n : Fin 256, x = ((n.val : Nat) : Int) := ⟨⟨x.toNat, by omega⟩, by simp only; omega⟩; subst hn; clear h0_ ho_; revert n; decide +kernel)) ?_
 refine TL.cons rfl (Step.conv (c := (ones x)) rfl rfl (lt_ok rfl) (by kernel_rfl) (by kernel_rfl) rfl (wrap_ok (by first | omega | (simp; omega)) (by first | omega | (simp; omega)))) ?_
 refine TL.cons rfl (Step.assign (p := (.one (.d (.int .i64 (ones x))))) rfl rfl (lt_ok rfl) rfl) ?_
 refine TL.nil ?_
 refine T.ret ?_
 exact ⟨[(false, [.d (.int .i64 (ones x))])], (.cons rfl .nil), rfl, [], (RetC.rd' rfl .nil)⟩
theorem ok_impl_BitsCount (b : List Int) (h0_ : U8s b) (h1_ : b.length ≤ 1099511627776) : RO Try.prog 139 [.one (.ints .u8 b)] [(false, [.rd (.int .i64 ((bitList b).length : Int))])] := by
 refine RO.intro Try.func139 rfl 18 rfl (le_ok rfl) fun w Z => ?_
 refine T.bnd 0 0 rfl rfl fun hb_0_0 => ?_
 simp only [D.size, List.length_map] at hb_0_0
 refine T.seq ?_
 refine T.region ?_
 refine TL.cons rfl (Step.assign (p := (.one (.d (.int .i64 0)))) rfl rfl (lt_ok rfl) rfl) ?_
 refine TL.nil ?_
 refine T.seq ?_
 refine T.region ?_
 refine TL.cons rfl (Step.assign (p := (.one (.d (.int .i64 0)))) rfl rfl (lt_ok rfl) rfl) ?_
 refine TL.nil ?_
 refine T.seq ?_
 refine T.seq ?_
 refine T.region ?_
 refine TL.cons rfl (Step.move (p := (.one (.d (.ints .u8 b)))) rfl rfl (lt_ok rfl) rfl) ?_
 refine TL.cons rfl (Step.len (e := 5) (z := 1) (d := (.ints .u8 b)) rfl rfl (lt_ok rfl) (by kernel_rfl) rfl rfl) ?_
 refine TL.cons rfl (Step.move (p := (.one (.d (.int .i64 0)))) rfl rfl (lt_ok rfl) rfl) ?_
 refine TL.nil ?_
 refine T.block ?_
 refine T.loop (ι := Nat × Int) (fun xx_ => { tm := [(2, (.one (.d (.int .i64 0)))), (6, (.one (.d (.ints .u8 b)))), (7, (.one (.d (.int .i64 (b.length : Int))))), (8, (.one (.d (.int .i64 ((xx_.1) : Int))))), (3, (.one (.d (.int .i64 (xx_.2)))))], rows := [], boxes := [] }) (fun xx_ => (xx_.1) ≤ b.length ∧ 0 ≤ (xx_.2) ∧ (xx_.2) ≤ 8 * (xx_.1) ∧ (xx_.2) + onesSum (b.drop (xx_.1)) = ((bitList b).length : Int)) (fun xx_ => b.length - (xx_.1)) (0, 0) ?_ ?_ ?_
 · refine Env.le_mk ⟨rfl, rfl, rfl, ?_, ?_, trivial⟩ trivial trivial <;> (first | rfl | (refine congrArg (fun n => PV.one (.d (.int .i64 n))) ?_; first | omega | (simp; done)))
 · (dsimp only; refine ⟨Nat.zero_le _, by omega, by omega, by rw [List.drop_zero, onesSum_all]; omega⟩)
 ·
  intro xx_ hx
  obtain ⟨i, c⟩ := xx_
  try dsimp only at hx ⊢
  obtain ⟨hx1, hx2, hx3, hx4⟩ := hx
  have hob_ := ones_bd (b.getD i 0)
  refine T.seq ?_
  refine T.region ?_
  refine TL.cons rfl (Step.bin rfl rfl (lt_ok rfl) rfl rfl (Bin.lss (k := .i64) (a := (i : Int)) (b := (b.length : Int)))) ?_
  refine TL.nil ?_
  refine T.seq ?_
  refine T.cond (b := decide ((i : Int) < (b.length : Int))) rfl (fun h1 => ?_) (fun h1 => ?_)
  ·
   replace h1 := of_decide_eq_true h1
   refine T.skip ?_
   refine T.seq ?_
   refine T.block ?_
   refine T.seq ?_
   refine T.region ?_
   refine TL.cons rfl (Step.index (e := 5) (z := 1) (i := (i : Int)) rfl rfl (lt_ok rfl) (by kernel_rfl) rfl rfl rfl (lt_ok rfl) rfl (by first | omega | (simp; omega)) (by simp only [D.size]; first | omega | (simp; omega))) ?_
   refine TL.cons rfl (Step.load (e := (.int .u8 (b.getD i 0))) rfl rfl (lt_ok rfl) (by kernel_rfl) rfl rfl) ?_
   refine TL.cons rfl (Step.assign (p := (.one (.d (.int .u8 (b.getD i 0))))) rfl rfl (lt_ok rfl) rfl) ?_
   refine TL.nil ?_
   refine T.region ?_
   refine TL.cons rfl (Step.move (p := (.one (.d (.int .i64 c)))) rfl rfl (lt_ok rfl) rfl) ?_
   refine TL.cons rfl (Step.move (p := (.one (.d (.int .u8 (b.getD i 0))))) rfl rfl (lt_ok rfl) rfl) ?_
   have nn2 := ones_bd (b.getD i 0)
   refine TL.cons rfl (Step.call (f := 183) (xs := [.tmp 13]) (ps := [(.one (.d (.int .u8 (b.getD i 0))))]) false (g := .func 183) rfl rfl (lt_ok rfl) rfl (by kernel_rfl) rfl (.cons (.one (.d _)) .nil) (ok_math_bits_OnesCount8 (b.getD i 0) (by first | assumption | exact getD_u8 (by assumption) _ | omega)) (.inr rfl) rfl (by simp) rfl) ?_
   refine TL.cons rfl (Step.bin (r := .int .i64 (c + (ones (b.getD i 0)))) rfl rfl (lt_ok rfl) rfl rfl (Bin.add (a := c) (b := (ones (b.getD i 0))) (by first | exact wrap_ok (by first | omega | (simp; omega)) (by first | omega | (simp; omega)) | rfl))) ?_
   refine TL.cons rfl (Step.assign (p := (.one (.d (.int .i64 (c + (ones (b.getD i 0))))))) rfl rfl (lt_ok rfl) rfl) ?_
   refine TL.nil ?_
   refine T.region ?_
   refine TL.cons rfl (Step.bin (r := .int .i64 ((i : Int) + 1)) rfl rfl (lt_ok rfl) rfl rfl (Bin.add (a := (i : Int)) (b := 1) (by first | exact wrap_ok (by first | omega | (simp; omega)) (by first | omega | (simp; omega)) | rfl))) ?_
   refine TL.cons rfl (Step.move (p := (.one (.d (.int .i64 ((i : Int) + 1))))) rfl rfl (lt_ok rfl) rfl) ?_
   refine TL.nil ?_
   refine ⟨(i + 1, c + (ones (b.getD i 0))), by (try dsimp only); (refine ⟨by omega, by omega, by omega, ?_⟩; rw [← hx4, onesSum_drop b (i := i) (by omega)]; omega), by (dsimp only; omega), Env.le_mk ⟨rfl, rfl, rfl, ?_, ?_, trivial⟩ trivial trivial⟩ <;> (first | rfl | (refine congrArg (fun n => PV.one (.d (.int .i64 n))) ?_; first | omega | (simp; done)))
  ·
   replace h1 := of_decide_eq_false h1
   refine T.exit ?_
   refine T.seq ?_
   refine T.region ?_
   refine TL.cons rfl (Step.move (p := (.one (.d (.int .i64 c)))) rfl rfl (lt_ok rfl) rfl) ?_
   refine TL.cons rfl (Step.assign (p := (.one (.d (.int .i64 c)))) rfl rfl (lt_ok rfl) rfl) ?_
   refine TL.nil ?_
   refine T.ret ?_
   refine ⟨[(false, [.d (.int .i64 c)])], (.cons rfl .nil), rfl, [], (RetC.rd' ?_ .nil)⟩ <;> ((congr 1; rw [← hx4, List.drop_of_length_le (by omega)]; simp [onesSum]))
theorem ok_impl_readQc (b : List Int) (s : SRS) (l : SLimits) (h0_ : U8s b) (h1_ : b.length ≤ 1048576) : BX Try.prog 89 [.rd (.agg [(.int .i64 l.f0), (.int .i64 l.f1), (.int .i64 l.f2), (.int .i64 l.f3), (.int .i64 l.f4)]), .bx] 144 [.rd (.ints .u8 b), .rd (.int .i64 s.f0), .rd (.int .i64 s.f1)] [.rd (.ints .u8 b), .rd (.int .i64 (rdQc l b s).1.f0), .rd (.int .i64 (rdQc l b s).1.f1)] [(true, [.rd (.int .i64 (rdQc l b s).2.f0), .rd (.int .i64 (rdQc l b s).2.f1), .own 5 (.ints .u8 (rdQc l b s).2.f2), .own 5 (.ints .u8 (rdQc l b s).2.f3), .own 24 (.bss (rdQc l b s).2.f4)])] := by
 refine BX.intro Try.func89 rfl 55 rfl (le_ok rfl) (le_ok rfl) fun w Z IX pin hp => ?_
 refine T.seq ?_
 refine T.region ?_
 refine TL.cons rfl (Step.box (p := (.agg [.d (.int .i64 l.f0), .d (.int .i64 l.f1), .d (.int .i64 l.f2), .d (.int .i64 l.f3), .d (.int .i64 l.f4)])) (ps := [.d (.int .i64 l.f0), .d (.int .i64 l.f1), .d (.int .i64 l.f2), .d (.int .i64 l.f3), .d (.int .i64 l.f4)]) rfl rfl (lt_ok rfl) rfl rfl rfl rfl rfl) ?_
 refine TL.cons rfl (Step.alloc (cs := [.int .i64 0, .int .i64 0, .slice none 0 0, .slice none 0 0, .slice none 0 0]) (ps := [.d (.int .i64 0), .d (.int .i64 0), .nil, .nil, .nil]) rfl rfl (lt_ok rfl) (by kernel_rfl) rfl rfl rfl rfl) ?_
 refine TL.nil ?_
 refine T.seq ?_
 refine T.region ?_
 refine TL.cons rfl (Step.move (p := (.one (.ptr 800 0))) rfl rfl (lt_ok rfl) rfl) ?_
 have nn1 := @rdNum_bd b (by assumption) s
 refine TL.cons rfl (Step.callX2 (b := 800) (xs := [.tmp 6]) (ps := [(.one (.ptr 800 0))]) (bps := [.d (.ints .u8 b), .d (.int .i64 s.f0), .d (.int .i64 s.f1)]) (ss := []) (g := .func 136) (ok_impl_reader__num b s (by assumption) (by first | omega | assumption | (simp only [List.length_append] at *; omega))) rfl rfl (lt_ok rfl) rfl (by kernel_rfl) rfl (.cons (.bx) .nil) rfl (.rd (.rd (.rd .nil))) rfl rfl (fun x hx => by have := hp x hx; omega) rfl) ?_
 refine TL.cons rfl (Step.move (p := (.one (.ptr 800 0))) rfl rfl (lt_ok rfl) rfl) ?_
 have nn2 := @rdNum_bd b (by assumption) (rdNum b s).1
 refine TL.cons rfl (Step.callX2 (b := 800) (xs := [.tmp 8]) (ps := [(.one (.ptr 800 0))]) (bps := [.d (.ints .u8 b), .d (.int .i64 (rdNum b s).1.f0), .d (.int .i64 (rdNum b s).1.f1)]) (ss := []) (g := .func 136) (ok_impl_reader__num b (rdNum b s).1 (by assumption) (by first | omega | assumption | (simp only [List.length_append] at *; omega))) rfl rfl (lt_ok rfl) rfl (by kernel_rfl) rfl (.cons (.bx) .nil) rfl (.rd (.rd (.rd .nil))) rfl rfl (fun x hx => by have := hp x hx; omega) rfl) ?_
 refine TL.cons rfl (Step.move (p := (.one (.ptr 800 0))) rfl rfl (lt_ok rfl) rfl) ?_
 have nn3 := rdRaw_len b (rdNum b (rdNum b s).1).1 32
 refine TL.cons rfl (Step.callX2 (b := 800) (xs := [.tmp 10]) (ps := [(.one (.ptr 800 0))]) (bps := [.d (.ints .u8 b), .d (.int .i64 (rdNum b (rdNum b s).1).1.f0), .d (.int .i64 (rdNum b (rdNum b s).1).1.f1)]) (ss := []) (g := .func 137) (ok_impl_reader__hash b (rdNum b (rdNum b s).1).1 (by assumption) (by first | omega | assumption | (simp only [List.length_append] at *; omega))) rfl rfl (lt_ok rfl) rfl (by kernel_rfl) rfl (.cons (.bx) .nil) rfl (.rd (.rd (.rd .nil))) rfl rfl (fun x hx => by have := hp x hx; omega) rfl) ?_
 refine TL.cons rfl (Step.build (zs := [.int .i64 0, .int .i64 0, .slice none 0 0, .slice none 0 0, .slice none 0 0]) (places := [(0, 1), (1, 1), (2, 1), (3, 1), (4, 1)]) (pss := [(0, [.d (.int .i64 (rdNum b s).2)]), (1, [.d (.int .i64 (rdNum b (rdNum b s).1).2)]), (2, [.row 4011 []])]) (ps' := [.d (.int .i64 (rdNum b s).2), .d (.int .i64 (rdNum b (rdNum b s).1).2), .row 4011 [], .nil, .nil]) rfl rfl (lt_ok rfl) (by kernel_rfl) (.cons ⟨rfl, rfl⟩ (.cons ⟨rfl, rfl⟩ (.cons ⟨rfl, rfl⟩ .nil))) rfl rfl rfl) ?_
 refine TL.cons rfl (Step.alloc (cs := [.int .i64 0, .int .i64 0, .slice none 0 0, .slice none 0 0, .slice none 0 0]) (ps := [.d (.int .i64 0), .d (.int .i64 0), .nil, .nil, .nil]) rfl rfl (lt_ok rfl) (by kernel_rfl) rfl rfl rfl rfl) ?_
 refine TL.cons rfl (Step.store_box (n := 5) (p := (.agg [.d (.int .i64 (rdNum b s).2), .d (.int .i64 (rdNum b (rdNum b s).1).2), .row 4011 [], .nil, .nil])) (qs := [.d (.int .i64 (rdNum b s).2), .d (.int .i64 (rdNum b (rdNum b s).1).2), .row 4011 [], .nil, .nil]) (ps' := [.d (.int .i64 (rdNum b s).2), .d (.int .i64 (rdNum b (rdNum b s).1).2), .row 4011 [], .nil, .nil]) rfl rfl (by kernel_rfl) rfl rfl rfl rfl rfl rfl (le_ok rfl) rfl) ?_
 refine TL.nil ?_
 refine T.seq ?_
 refine T.seq ?_
 refine T.region ?_
 refine TL.cons rfl (Step.move (p := (.one (.ptr 800 0))) rfl rfl (lt_ok rfl) rfl) ?_
 refine TL.cons rfl (Step.nilCheck rfl rfl (lt_ok rfl) rfl) ?_
 refine TL.cons rfl (Step.fieldAddr (q := 0) (off := 2) (n := 1) (one := true) rfl rfl (lt_ok rfl) (by kernel_rfl) (Nat.succ_ne_zero _) rfl) ?_
 refine TL.cons rfl (Step.load_box (c := .d (.int .i64 (rdRaw b (rdNum b (rdNum b s).1).1 32).1.f1)) rfl rfl (lt_ok rfl) (by kernel_rfl) rfl rfl rfl) ?_
 refine TL.cons rfl (Step.bin rfl rfl (lt_ok rfl) rfl rfl (Bin.neq (k := .i64) (a := (rdRaw b (rdNum b (rdNum b s).1).1 32).1.f1) (b := 0))) ?_
 refine TL.nil ?_
 refine T.cond (b := decide ((rdRaw b (rdNum b (rdNum b s).1).1 32).1.f1 ≠ 0)) rfl (fun h4 => ?_) (fun h4 => ?_)
 ·
  replace h4 := of_decide_eq_true h4
  refine T.seq ?_
  refine T.region ?_
  refine TL.cons rfl (Step.load_box_agg (n := 5) (qs := [.d (.int .i64 (rdNum b s).2), .d (.int .i64 (rdNum b (rdNum b s).1).2), .row 4011 [], .nil, .nil]) rfl rfl (lt_ok rfl) (by kernel_rfl) rfl rfl rfl rfl) ?_
  refine TL.cons rfl (Step.store_box (n := 5) (p := (.agg [.d (.int .i64 (rdNum b s).2), .d (.int .i64 (rdNum b (rdNum b s).1).2), .row 4011 [], .nil, .nil])) (qs := [.d (.int .i64 (rdNum b s).2), .d (.int .i64 (rdNum b (rdNum b s).1).2), .row 4011 [], .nil, .nil]) (ps' := [.d (.int .i64 (rdNum b s).2), .d (.int .i64 (rdNum b (rdNum b s).1).2), .row 4011 [], .nil, .nil]) rfl rfl (by kernel_rfl) rfl rfl rfl rfl rfl rfl (le_ok rfl) rfl) ?_
  refine TL.nil ?_
  refine T.ret ?_
  refine ⟨[.d (.ints .u8 b), .d (.int .i64 (rdRaw b (rdNum b (rdNum b s).1).1 32).1.f0), .d (.int .i64 (rdRaw b (rdNum b (rdNum b s).1).1 32).1.f1)], [(true, [.d (.int .i64 (rdNum b s).2), .d (.int .i64 (rdNum b (rdNum b s).1).2), .row 4011 [], .nil, .nil])], rfl, rfl, (.cons rfl .nil), rfl, [4011], (RetC.rd' rfl (RetC.rd' ?_ (RetC.rd' ?_ (RetC.rd' ?_ (RetC.rd' ?_ (RetC.own' rfl ?_ rfl (RetC.nilown' rfl ?_ (by first | exact trivial | exact D.wf_nil _) (RetC.nilown' rfl ?_ (by first | exact trivial | exact D.wf_nil _) .nil))))))))⟩ <;> (first | rfl | (congr 1; unfold rdQc; first | (rw [Nat.le_antisymm hx (by omega)]; first | (rw [rdQcA_yes (s := rdQc3 b s) (by show (rdRaw b (rdNum b (rdNum b s).1).1 32).1.f1 = 0; omega)]; first | done | rfl) | (rw [rdQcA_no (s := rdQc3 b s) (by assumption)]; first | done | rfl)) | (rw [rdQcA_yes (s := rdQc3 b s) (by show (rdRaw b (rdNum b (rdNum b s).1).1 32).1.f1 = 0; omega)]; first | done | rfl) | (rw [rdQcA_no (s := rdQc3 b s) (by assumption)]; first | done | rfl)) | (simp only [D.size, List.length_map]; unfold rdQc; first | (rw [Nat.le_antisymm hx (by omega)]; first | (rw [rdQcA_yes (s := rdQc3 b s) (by show (rdRaw b (rdNum b (rdNum b s).1).1 32).1.f1 = 0; omega)]; first | done | rfl) | (rw [rdQcA_no (s := rdQc3 b s) (by assumption)]; first | done | rfl)) | (rw [rdQcA_yes (s := rdQc3 b s) (by show (rdRaw b (rdNum b (rdNum b s).1).1 32).1.f1 = 0; omega)]; first | done | rfl) | (rw [rdQcA_no (s := rdQc3 b s) (by assumption)]; first | done | rfl)))
 ·
  replace h4 := of_decide_eq_false h4
  refine T.skip ?_
  refine T.seq ?_
  have nn5 := @getBits_u8 b (by assumption) (rdRaw b (rdNum b (rdNum b s).1).1 32).1.f0 l.f0
  have nn6 := getBits_len b (rdRaw b (rdNum b (rdNum b s).1).1 32).1.f0 l.f0
  refine T.drawX [{ dst := some 20, pv := (.one (.ptr 800 0)) }, { dst := some 21, pv := (.one (.ptr 800 0)) }, { dst := some 22, pv := (.one (.ptr 800 0)) }, { dst := some 23, pv := (.one (.ptr 800 0)) }, { dst := some 24, pv := (.one (.ptr 800 0)) }, { dst := some 25, pv := (.one (.d (.ints .u8 b))) }, { dst := some 26, pv := (.one (.ptr 800 0)) }, { dst := some 27, pv := (.one (.ptr 800 0)) }, { dst := some 28, pv := (.one (.ptr 800 1)) }, { dst := some 29, pv := (.one (.d (.int .i64 (rdRaw b (rdNum b (rdNum b s).1).1 32).1.f0))) }, { dst := some 30, pv := (.one (.ptr 2 0)) }, { dst := some 31, pv := (.one (.d (.int .i64 l.f0))) }, { dst := some 32, pv := (.tup [(false, [.row 1032 []]), (false, [.d (.int .i64 (getBits b (rdRaw b (rdNum b (rdNum b s).1).1 32).1.f0 l.f0).2.1)]), (false, [.d (.int .i64 (getBits b (rdRaw b (rdNum b (rdNum b s).1).1 32).1.f0 l.f0).2.2)])]), rows := [(1032, (5, (.ints .u8 (getBits b (rdRaw b (rdNum b (rdNum b s).1).1 32).1.f0 l.f0).1)))] }, { dst := some 19, pv := (.tup [(false, [.row 1032 []]), (false, [.d (.int .i64 (getBits b (rdRaw b (rdNum b (rdNum b s).1).1 32).1.f0 l.f0).2.1)]), (false, [.d (.int .i64 (getBits b (rdRaw b (rdNum b (rdNum b s).1).1 32).1.f0 l.f0).2.2)])]) }, { dst := some 33, pv := (.one (.row 1032 [])) }, { dst := some 34, pv := (.one (.d (.int .i64 (getBits b (rdRaw b (rdNum b (rdNum b s).1).1 32).1.f0 l.f0).2.1))) }, { dst := some 35, pv := (.one (.d (.int .i64 (getBits b (rdRaw b (rdNum b (rdNum b s).1).1 32).1.f0 l.f0).2.2))) }, { dst := some 36, pv := (.one (.ptr 5 3)) }, { box := some (5, (38, [.d (.int .i64 (rdNum b s).2), .d (.int .i64 (rdNum b (rdNum b s).1).2), .row 4011 [], .row 1032 [], .nil])) }, { dst := some 37, pv := (.one (.ptr 800 0)) }, { dst := some 38, pv := (.one (.ptr 800 1)) }, { box := some (800, (144, [.d (.ints .u8 b), .d (.int .i64 (getBits b (rdRaw b (rdNum b (rdNum b s).1).1 32).1.f0 l.f0).2.1), .d (.int .i64 (rdRaw b (rdNum b (rdNum b s).1).1 32).1.f1)])) }, { dst := some 39, pv := (.one (.ptr 800 0)) }, { dst := some 40, pv := (.one (.ptr 800 2)) }, { box := some (800, (144, [.d (.ints .u8 b), .d (.int .i64 (getBits b (rdRaw b (rdNum b (rdNum b s).1).1 32).1.f0 l.f0).2.1), .d (.int .i64 (getBits b (rdRaw b (rdNum b (rdNum b s).1).1 32).1.f0 l.f0).2.2)])) }] (by kernel_rfl) (by kernel_rfl) ?_ ?_
  ·
   refine .cons (fun E hA_ => by have g1 : E.get 1 = (.one (.ptr 800 0)) := (hA_.get 1 (by kernel_rfl)).trans (by kernel_rfl); exact OpStep.plain rfl (Step.move (p := (.one (.ptr 800 0))) (t := 20) rfl rfl (by exact lt_ok rfl) (show Env.ev E (.tmp 1) = _ from g1.trans rfl))) ?_
   refine .cons (fun E hA_ => by have g1 : E.get 1 = (.one (.ptr 800 0)) := (hA_.get 1 (by kernel_rfl)).trans (by kernel_rfl); exact OpStep.plain rfl (Step.move (p := (.one (.ptr 800 0))) (t := 21) rfl rfl (by exact lt_ok rfl) (show Env.ev E (.tmp 1) = _ from g1.trans rfl))) ?_
   refine .cons (fun E hA_ => by have g1 : E.get 1 = (.one (.ptr 800 0)) := (hA_.get 1 (by kernel_rfl)).trans (by kernel_rfl); exact OpStep.plain rfl (Step.move (p := (.one (.ptr 800 0))) (t := 22) rfl rfl (by exact lt_ok rfl) (show Env.ev E (.tmp 1) = _ from g1.trans rfl))) ?_
   refine .cons (fun E hA_ => by have g22 : E.get 22 = (.one (.ptr 800 0)) := (hA_.get 22 (by kernel_rfl)).trans (by kernel_rfl); exact OpStep.plain rfl (Step.nilCheck (t := 23) rfl rfl (by exact lt_ok rfl) (show Env.ev E (.tmp 22) = _ from g22.trans rfl))) ?_
   refine .cons (fun E hA_ => by have g23 : E.get 23 = (.one (.ptr 800 0)) := (hA_.get 23 (by kernel_rfl)).trans (by kernel_rfl); exact OpStep.plain rfl (Step.fieldAddr (q := 0) (off := 0) (n := 1) (one := true) (t := 24) rfl rfl (by exact lt_ok rfl) (by kernel_rfl) (Nat.succ_ne_zero _) (show Env.ev E (.tmp 23) = _ from g23.trans rfl))) ?_
   refine .cons (fun E hA_ => by have g24 : E.get 24 = (.one (.ptr 800 0)) := (hA_.get 24 (by kernel_rfl)).trans (by kernel_rfl); have b800 : E.box 800 = some (144, [.d (.ints .u8 b), .d (.int .i64 (rdRaw b (rdNum b (rdNum b s).1).1 32).1.f0), .d (.int .i64 (rdRaw b (rdNum b (rdNum b s).1).1 32).1.f1)]) := (hA_.box 800 (by kernel_rfl)).trans (by kernel_rfl); exact OpStep.plain rfl (Step.load_box (c := .d (.ints .u8 b)) (t := 25) rfl rfl (by exact lt_ok rfl) (by kernel_rfl) (show Env.ev E (.tmp 24) = _ from g24.trans rfl) b800 rfl)) ?_
   refine .cons (fun E hA_ => by have g1 : E.get 1 = (.one (.ptr 800 0)) := (hA_.get 1 (by kernel_rfl)).trans (by kernel_rfl); exact OpStep.plain rfl (Step.move (p := (.one (.ptr 800 0))) (t := 26) rfl rfl (by exact lt_ok rfl) (show Env.ev E (.tmp 1) = _ from g1.trans rfl))) ?_
   refine .cons (fun E hA_ => by have g26 : E.get 26 = (.one (.ptr 800 0)) := (hA_.get 26 (by kernel_rfl)).trans (by kernel_rfl); exact OpStep.plain rfl (Step.nilCheck (t := 27) rfl rfl (by exact lt_ok rfl) (show Env.ev E (.tmp 26) = _ from g26.trans rfl))) ?_
   refine .cons (fun E hA_ => by have g27 : E.get 27 = (.one (.ptr 800 0)) := (hA_.get 27 (by kernel_rfl)).trans (by kernel_rfl); exact OpStep.plain rfl (Step.fieldAddr (q := 0) (off := 1) (n := 1) (one := true) (t := 28) rfl rfl (by exact lt_ok rfl) (by kernel_rfl) (Nat.succ_ne_zero _) (show Env.ev E (.tmp 27) = _ from g27.trans rfl))) ?_
   refine .cons (fun E hA_ => by have g28 : E.get 28 = (.one (.ptr 800 1)) := (hA_.get 28 (by kernel_rfl)).trans (by kernel_rfl); have b800 : E.box 800 = some (144, [.d (.ints .u8 b), .d (.int .i64 (rdRaw b (rdNum b (rdNum b s).1).1 32).1.f0), .d (.int .i64 (rdRaw b (rdNum b (rdNum b s).1).1 32).1.f1)]) := (hA_.box 800 (by kernel_rfl)).trans (by kernel_rfl); exact OpStep.plain rfl (Step.load_box (c := .d (.int .i64 (rdRaw b (rdNum b (rdNum b s).1).1 32).1.f0)) (t := 29) rfl rfl (by exact lt_ok rfl) (by kernel_rfl) (show Env.ev E (.tmp 28) = _ from g28.trans rfl) b800 rfl)) ?_
   refine .cons (fun E hA_ => by have g2 : E.get 2 = (.one (.ptr 2 0)) := (hA_.get 2 (by kernel_rfl)).trans (by kernel_rfl); exact OpStep.plain rfl (Step.fieldAddr (q := 0) (off := 0) (n := 1) (one := true) (t := 30) rfl rfl (by exact lt_ok rfl) (by kernel_rfl) (Nat.succ_ne_zero _) (show Env.ev E (.tmp 2) = _ from g2.trans rfl))) ?_
   refine .cons (fun E hA_ => by have g30 : E.get 30 = (.one (.ptr 2 0)) := (hA_.get 30 (by kernel_rfl)).trans (by kernel_rfl); have b2 : E.box 2 = some (34, [.d (.int .i64 l.f0), .d (.int .i64 l.f1), .d (.int .i64 l.f2), .d (.int .i64 l.f3), .d (.int .i64 l.f4)]) := (hA_.box 2 (by kernel_rfl)).trans (by kernel_rfl); exact OpStep.plain rfl (Step.load_box (c := .d (.int .i64 l.f0)) (t := 31) rfl rfl (by exact lt_ok rfl) (by kernel_rfl) (show Env.ev E (.tmp 30) = _ from g30.trans rfl) b2 rfl)) ?_
   refine .cons (fun E hA_ => by have g25 : E.get 25 = (.one (.d (.ints .u8 b))) := (hA_.get 25 (by kernel_rfl)).trans (by kernel_rfl); have g29 : E.get 29 = (.one (.d (.int .i64 (rdRaw b (rdNum b (rdNum b s).1).1 32).1.f0))) := (hA_.get 29 (by kernel_rfl)).trans (by kernel_rfl); have g31 : E.get 31 = (.one (.d (.int .i64 l.f0))) := (hA_.get 31 (by kernel_rfl)).trans (by kernel_rfl); exact OpStep.plain rfl (Step.call (f := 138) (xs := [.tmp 25, .tmp 29, .tmp 31]) (ps := [(.one (.d (.ints .u8 b))), (.one (.d (.int .i64 (rdRaw b (rdNum b (rdNum b s).1).1 32).1.f0))), (.one (.d (.int .i64 l.f0)))]) false (g := .func 138) (t := 32) rfl rfl (by exact lt_ok rfl) rfl (by kernel_rfl) (evs_cons (show Env.ev E (.tmp 25) = _ from g25.trans rfl) (evs_cons (show Env.ev E (.tmp 29) = _ from g29.trans rfl) (evs_cons (show Env.ev E (.tmp 31) = _ from g31.trans rfl) (rfl)))) (.cons (.one (.d _)) (.cons (.one (.d _)) (.cons (.one (.d _)) .nil))) (ok_impl_GetBits b (rdRaw b (rdNum b (rdNum b s).1).1 32).1.f0 l.f0 (by assumption) (by first | omega | assumption | (simp only [List.length_append] at *; omega))) (.inr rfl) (freshRows_of _ _ (fun x_ hx_ => hA_.fresh x_ (by exact hx_))) (fun x hx => by have := hp x hx; omega) rfl)) ?_
   refine .cons (fun E hA_ => by have g32 : E.get 32 = (.tup [(false, [.row 1032 []]), (false, [.d (.int .i64 (getBits b (rdRaw b (rdNum b (rdNum b s).1).1 32).1.f0 l.f0).2.1)]), (false, [.d (.int .i64 (getBits b (rdRaw b (rdNum b (rdNum b s).1).1 32).1.f0 l.f0).2.2)])]) := (hA_.get 32 (by kernel_rfl)).trans (by kernel_rfl); exact OpStep.plain rfl (Step.move (p := (.tup [(false, [.row 1032 []]), (false, [.d (.int .i64 (getBits b (rdRaw b (rdNum b (rdNum b s).1).1 32).1.f0 l.f0).2.1)]), (false, [.d (.int .i64 (getBits b (rdRaw b (rdNum b (rdNum b s).1).1 32).1.f0 l.f0).2.2)])])) (t := 19) rfl rfl (by exact lt_ok rfl) (show Env.ev E (.tmp 32) = _ from g32.trans rfl))) ?_
   refine .cons (fun E hA_ => by have g19 : E.get 19 = (.tup [(false, [.row 1032 []]), (false, [.d (.int .i64 (getBits b (rdRaw b (rdNum b (rdNum b s).1).1 32).1.f0 l.f0).2.1)]), (false, [.d (.int .i64 (getBits b (rdRaw b (rdNum b (rdNum b s).1).1 32).1.f0 l.f0).2.2)])]) := (hA_.get 19 (by kernel_rfl)).trans (by kernel_rfl); exact OpStep.plain rfl (Step.extract (p := (.one (.row 1032 []))) (t := 33) rfl rfl (by exact lt_ok rfl) (show Env.ev E (.tmp 19) = _ from g19.trans rfl) rfl)) ?_
   refine .cons (fun E hA_ => by have g19 : E.get 19 = (.tup [(false, [.row 1032 []]), (false, [.d (.int .i64 (getBits b (rdRaw b (rdNum b (rdNum b s).1).1 32).1.f0 l.f0).2.1)]), (false, [.d (.int .i64 (getBits b (rdRaw b (rdNum b (rdNum b s).1).1 32).1.f0 l.f0).2.2)])]) := (hA_.get 19 (by kernel_rfl)).trans (by kernel_rfl); exact OpStep.plain rfl (Step.extract (p := (.one (.d (.int .i64 (getBits b (rdRaw b (rdNum b (rdNum b s).1).1 32).1.f0 l.f0).2.1)))) (t := 34) rfl rfl (by exact lt_ok rfl) (show Env.ev E (.tmp 19) = _ from g19.trans rfl) rfl)) ?_
   refine .cons (fun E hA_ => by have g19 : E.get 19 = (.tup [(false, [.row 1032 []]), (false, [.d (.int .i64 (getBits b (rdRaw b (rdNum b (rdNum b s).1).1 32).1.f0 l.f0).2.1)]), (false, [.d (.int .i64 (getBits b (rdRaw b (rdNum b (rdNum b s).1).1 32).1.f0 l.f0).2.2)])]) := (hA_.get 19 (by kernel_rfl)).trans (by kernel_rfl); exact OpStep.plain rfl (Step.extract (p := (.one (.d (.int .i64 (getBits b (rdRaw b (rdNum b (rdNum b s).1).1 32).1.f0 l.f0).2.2)))) (t := 35) rfl rfl (by exact lt_ok rfl) (show Env.ev E (.tmp 19) = _ from g19.trans rfl) rfl)) ?_
   refine .cons (fun E hA_ => by have g5 : E.get 5 = (.one (.ptr 5 0)) := (hA_.get 5 (by kernel_rfl)).trans (by kernel_rfl); exact OpStep.plain rfl (Step.fieldAddr (q := 0) (off := 3) (n := 1) (one := true) (t := 36) rfl rfl (by exact lt_ok rfl) (by kernel_rfl) (Nat.succ_ne_zero _) (show Env.ev E (.tmp 5) = _ from g5.trans rfl))) ?_
   refine .cons (fun E hA_ => by have g33 : E.get 33 = (.one (.row 1032 [])) := (hA_.get 33 (by kernel_rfl)).trans (by kernel_rfl); have g36 : E.get 36 = (.one (.ptr 5 3)) := (hA_.get 36 (by kernel_rfl)).trans (by kernel_rfl); have q1032 : E.row 1032 = some (5, (.ints .u8 (getBits b (rdRaw b (rdNum b (rdNum b s).1).1 32).1.f0 l.f0).1)) := (hA_.row 1032 (by kernel_rfl)).trans (by kernel_rfl); have b5 : E.box 5 = some (38, [.d (.int .i64 (rdNum b s).2), .d (.int .i64 (rdNum b (rdNum b s).1).2), .row 4011 [], .nil, .nil]) := (hA_.box 5 (by kernel_rfl)).trans (by kernel_rfl); exact OpStep.plain rfl (Step.store_box (n := 1) (p := (.one (.row 1032 []))) (qs := [.row 1032 []]) (ps' := [.d (.int .i64 (rdNum b s).2), .d (.int .i64 (rdNum b (rdNum b s).1).2), .row 4011 [], .row 1032 [], .nil]) rfl rfl (by kernel_rfl) (show Env.ev E (.tmp 36) = _ from g36.trans rfl) b5 (show Env.ev E (.tmp 33) = _ from g33.trans rfl) rfl rfl (by simp only [List.all_cons, List.all_nil, List.flatten_cons, List.flatten_nil, List.append_nil, List.cons_append, List.nil_append, Env.fine, q1032]; rfl) (le_ok rfl) rfl)) ?_
   refine .cons (fun E hA_ => by have g20 : E.get 20 = (.one (.ptr 800 0)) := (hA_.get 20 (by kernel_rfl)).trans (by kernel_rfl); exact OpStep.plain rfl (Step.nilCheck (t := 37) rfl rfl (by exact lt_ok rfl) (show Env.ev E (.tmp 20) = _ from g20.trans rfl))) ?_
   refine .cons (fun E hA_ => by have g37 : E.get 37 = (.one (.ptr 800 0)) := (hA_.get 37 (by kernel_rfl)).trans (by kernel_rfl); exact OpStep.plain rfl (Step.fieldAddr (q := 0) (off := 1) (n := 1) (one := true) (t := 38) rfl rfl (by exact lt_ok rfl) (by kernel_rfl) (Nat.succ_ne_zero _) (show Env.ev E (.tmp 37) = _ from g37.trans rfl))) ?_
   refine .cons (fun E hA_ => by have g34 : E.get 34 = (.one (.d (.int .i64 (getBits b (rdRaw b (rdNum b (rdNum b s).1).1 32).1.f0 l.f0).2.1))) := (hA_.get 34 (by kernel_rfl)).trans (by kernel_rfl); have g38 : E.get 38 = (.one (.ptr 800 1)) := (hA_.get 38 (by kernel_rfl)).trans (by kernel_rfl); have b800 : E.box 800 = some (144, [.d (.ints .u8 b), .d (.int .i64 (rdRaw b (rdNum b (rdNum b s).1).1 32).1.f0), .d (.int .i64 (rdRaw b (rdNum b (rdNum b s).1).1 32).1.f1)]) := (hA_.box 800 (by kernel_rfl)).trans (by kernel_rfl); exact OpStep.plain rfl (Step.store_box (n := 1) (p := (.one (.d (.int .i64 (getBits b (rdRaw b (rdNum b (rdNum b s).1).1 32).1.f0 l.f0).2.1)))) (qs := [.d (.int .i64 (getBits b (rdRaw b (rdNum b (rdNum b s).1).1 32).1.f0 l.f0).2.1)]) (ps' := [.d (.ints .u8 b), .d (.int .i64 (getBits b (rdRaw b (rdNum b (rdNum b s).1).1 32).1.f0 l.f0).2.1), .d (.int .i64 (rdRaw b (rdNum b (rdNum b s).1).1 32).1.f1)]) rfl rfl (by kernel_rfl) (show Env.ev E (.tmp 38) = _ from g38.trans rfl) b800 (show Env.ev E (.tmp 34) = _ from g34.trans rfl) rfl rfl rfl (le_ok rfl) rfl)) ?_
   refine .cons (fun E hA_ => by have g21 : E.get 21 = (.one (.ptr 800 0)) := (hA_.get 21 (by kernel_rfl)).trans (by kernel_rfl); exact OpStep.plain rfl (Step.nilCheck (t := 39) rfl rfl (by exact lt_ok rfl) (show Env.ev E (.tmp 21) = _ from g21.trans rfl))) ?_
   refine .cons (fun E hA_ => by have g39 : E.get 39 = (.one (.ptr 800 0)) := (hA_.get 39 (by kernel_rfl)).trans (by kernel_rfl); exact OpStep.plain rfl (Step.fieldAddr (q := 0) (off := 2) (n := 1) (one := true) (t := 40) rfl rfl (by exact lt_ok rfl) (by kernel_rfl) (Nat.succ_ne_zero _) (show Env.ev E (.tmp 39) = _ from g39.trans rfl))) ?_
   refine .cons (fun E hA_ => by have g35 : E.get 35 = (.one (.d (.int .i64 (getBits b (rdRaw b (rdNum b (rdNum b s).1).1 32).1.f0 l.f0).2.2))) := (hA_.get 35 (by kernel_rfl)).trans (by kernel_rfl); have g40 : E.get 40 = (.one (.ptr 800 2)) := (hA_.get 40 (by kernel_rfl)).trans (by kernel_rfl); have b800 : E.box 800 = some (144, [.d (.ints .u8 b), .d (.int .i64 (getBits b (rdRaw b (rdNum b (rdNum b s).1).1 32).1.f0 l.f0).2.1), .d (.int .i64 (rdRaw b (rdNum b (rdNum b s).1).1 32).1.f1)]) := (hA_.box 800 (by kernel_rfl)).trans (by kernel_rfl); exact OpStep.plain rfl (Step.store_box (n := 1) (p := (.one (.d (.int .i64 (getBits b (rdRaw b (rdNum b (rdNum b s).1).1 32).1.f0 l.f0).2.2)))) (qs := [.d (.int .i64 (getBits b (rdRaw b (rdNum b (rdNum b s).1).1 32).1.f0 l.f0).2.2)]) (ps' := [.d (.ints .u8 b), .d (.int .i64 (getBits b (rdRaw b (rdNum b (rdNum b s).1).1 32).1.f0 l.f0).2.1), .d (.int .i64 (getBits b (rdRaw b (rdNum b (rdNum b s).1).1 32).1.f0 l.f0).2.2)]) rfl rfl (by kernel_rfl) (show Env.ev E (.tmp 40) = _ from g40.trans rfl) b800 (show Env.ev E (.tmp 35) = _ from g35.trans rfl) rfl rfl rfl (le_ok rfl) rfl)) ?_
   exact .nil _ _
  refine TL.weaken (E' := { tm := [(0, (.agg [.d (.int .i64 l.f0), .d (.int .i64 l.f1), .d (.int .i64 l.f2), .d (.int .i64 l.f3), .d (.int .i64 l.f4)])), (1, (.one (.ptr 800 0))), (2, (.one (.ptr 2 0))), (4, (.one (.ptr 4 0))), (6, (.one (.ptr 800 0))), (7, (.one (.d (.int .i64 (rdNum b s).2)))), (8, (.one (.ptr 800 0))), (9, (.one (.d (.int .i64 (rdNum b (rdNum b s).1).2)))), (10, (.one (.ptr 800 0))), (11, (.one (.row 4011 []))), (12, (.agg [.d (.int .i64 (rdNum b s).2), .d (.int .i64 (rdNum b (rdNum b s).1).2), .row 4011 [], .nil, .nil])), (5, (.one (.ptr 5 0))), (13, (.one (.ptr 800 0))), (14, (.one (.ptr 800 0))), (15, (.one (.ptr 800 2))), (16, (.one (.d (.int .i64 (rdRaw b (rdNum b (rdNum b s).1).1 32).1.f1)))), (17, (.one (.d (.bool (decide ((rdRaw b (rdNum b (rdNum b s).1).1 32).1.f1 ≠ 0)))))), (20, (.one (.ptr 800 0))), (21, (.one (.ptr 800 0))), (22, (.one (.ptr 800 0))), (23, (.one (.ptr 800 0))), (24, (.one (.ptr 800 0))), (25, (.one (.d (.ints .u8 b)))), (26, (.one (.ptr 800 0))), (27, (.one (.ptr 800 0))), (28, (.one (.ptr 800 1))), (29, (.one (.d (.int .i64 (rdRaw b (rdNum b (rdNum b s).1).1 32).1.f0)))), (30, (.one (.ptr 2 0))), (31, (.one (.d (.int .i64 l.f0)))), (32, (.tup [(false, [.row 1032 []]), (false, [.d (.int .i64 (getBits b (rdRaw b (rdNum b (rdNum b s).1).1 32).1.f0 l.f0).2.1)]), (false, [.d (.int .i64 (getBits b (rdRaw b (rdNum b (rdNum b s).1).1 32).1.f0 l.f0).2.2)])])), (19, (.tup [(false, [.row 1032 []]), (false, [.d (.int .i64 (getBits b (rdRaw b (rdNum b (rdNum b s).1).1 32).1.f0 l.f0).2.1)]), (false, [.d (.int .i64 (getBits b (rdRaw b (rdNum b (rdNum b s).1).1 32).1.f0 l.f0).2.2)])])), (33, (.one (.row 1032 []))), (34, (.one (.d (.int .i64 (getBits b (rdRaw b (rdNum b (rdNum b s).1).1 32).1.f0 l.f0).2.1)))), (35, (.one (.d (.int .i64 (getBits b (rdRaw b (rdNum b (rdNum b s).1).1 32).1.f0 l.f0).2.2)))), (36, (.one (.ptr 5 3))), (37, (.one (.ptr 800 0))), (38, (.one (.ptr 800 1))), (39, (.one (.ptr 800 0))), (40, (.one (.ptr 800 2)))], rows := [(4011, (5, (.ints .u8 (rdRaw b (rdNum b (rdNum b s).1).1 32).2))), (1032, (5, (.ints .u8 (getBits b (rdRaw b (rdNum b (rdNum b s).1).1 32).1.f0 l.f0).1)))], boxes := [(800, (144, [.d (.ints .u8 b), .d (.int .i64 (getBits b (rdRaw b (rdNum b (rdNum b s).1).1 32).1.f0 l.f0).2.1), .d (.int .i64 (getBits b (rdRaw b (rdNum b (rdNum b s).1).1 32).1.f0 l.f0).2.2)])), (2, (34, [.d (.int .i64 l.f0), .d (.int .i64 l.f1), .d (.int .i64 l.f2), .d (.int .i64 l.f3), .d (.int .i64 l.f4)])), (4, (38, [.d (.int .i64 0), .d (.int .i64 0), .nil, .nil, .nil])), (5, (38, [.d (.int .i64 (rdNum b s).2), .d (.int .i64 (rdNum b (rdNum b s).1).2), .row 4011 [], .row 1032 [], .nil]))] }) (Env.le_mk ⟨by kernel_rfl, by kernel_rfl, by kernel_rfl, by kernel_rfl, by kernel_rfl, by kernel_rfl, by kernel_rfl, by kernel_rfl, by kernel_rfl, by kernel_rfl, by kernel_rfl, by kernel_rfl, by kernel_rfl, by kernel_rfl, by kernel_rfl, by kernel_rfl, by kernel_rfl, by kernel_rfl, by kernel_rfl, by kernel_rfl, by kernel_rfl, by kernel_rfl, by kernel_rfl, by kernel_rfl, by kernel_rfl, by kernel_rfl, by kernel_rfl, by kernel_rfl, by kernel_rfl, by kernel_rfl, by kernel_rfl, by kernel_rfl, by kernel_rfl, by kernel_rfl, by kernel_rfl, by kernel_rfl, by kernel_rfl, by kernel_rfl, by kernel_rfl, trivial⟩ ⟨by kernel_rfl, by kernel_rfl, trivial⟩ ⟨by kernel_rfl, by kernel_rfl, by kernel_rfl, by kernel_rfl, trivial⟩) ?_
  refine TL.nil ?_
  refine T.seq ?_
  refine T.seq ?_
  refine T.region ?_
  refine TL.cons rfl (Step.fieldAddr (q := 0) (off := 3) (n := 1) (one := true) rfl rfl (lt_ok rfl) (by kernel_rfl) (Nat.succ_ne_zero _) rfl) ?_
  refine TL.cons rfl (Step.load_box (c := .row 1032 []) rfl rfl (lt_ok rfl) (by kernel_rfl) rfl rfl rfl) ?_
  have nn7 := bitList_len (getBits b (rdRaw b (rdNum b (rdNum b s).1).1 32).1.f0 l.f0).1
  refine TL.cons rfl (Step.call (f := 139) (xs := [.tmp 42]) (ps := [(.one (.row 1032 []))]) false (g := .func 139) rfl rfl (lt_ok rfl) rfl (by kernel_rfl) rfl (.cons (.one (.row rfl rfl rfl rfl)) .nil) (ok_impl_BitsCount (getBits b (rdRaw b (rdNum b (rdNum b s).1).1 32).1.f0 l.f0).1 (by first | assumption | exact fun x hx => by cases hx) (by first | omega | assumption | (simp only [List.length_append] at *; omega) | (simp; done))) (.inr rfl) rfl (fun x hx => by have := hp x hx; omega) rfl) ?_
  refine TL.cons rfl (Step.move (p := (.one (.d (.int .i64 0)))) rfl rfl (lt_ok rfl) rfl) ?_
  refine TL.nil ?_
  refine T.block ?_
  refine T.nilrow 5 4 100504 24 38 (.bss []) [.d (.int .i64 (rdNum b s).2), .d (.int .i64 (rdNum b (rdNum b s).1).2), .row 4011 [], .row 1032 [], .nil] rfl rfl rfl (fun x hx => by have := hp x hx; omega) rfl rfl trivial ?_
  refine T.loop (ι := Nat) (fun xx_ => { tm := [(1, (.one (.ptr 800 0))), (4, (.one (.ptr 4 0))), (5, (.one (.ptr 5 0))), (43, (.one (.d (.int .i64 ((bitList (getBits b (rdRaw b (rdNum b (rdNum b s).1).1 32).1.f0 l.f0).1).length : Int))))), (44, (.one (.d (.int .i64 (xx_ : Int)))))], rows := [(4011, (5, (.ints .u8 (rdRaw b (rdNum b (rdNum b s).1).1 32).2))), (1032, (5, (.ints .u8 (getBits b (rdRaw b (rdNum b (rdNum b s).1).1 32).1.f0 l.f0).1))), (100504, (24, (.bss (rdTags b (⟨(getBits b (rdRaw b (rdNum b (rdNum b s).1).1 32).1.f0 l.f0).2.1, (getBits b (rdRaw b (rdNum b (rdNum b s).1).1 32).1.f0 l.f0).2.2⟩ : SRS) xx_).2)))], boxes := [(800, (144, [.d (.ints .u8 b), .d (.int .i64 (rdTags b (⟨(getBits b (rdRaw b (rdNum b (rdNum b s).1).1 32).1.f0 l.f0).2.1, (getBits b (rdRaw b (rdNum b (rdNum b s).1).1 32).1.f0 l.f0).2.2⟩ : SRS) xx_).1.f0), .d (.int .i64 (rdTags b (⟨(getBits b (rdRaw b (rdNum b (rdNum b s).1).1 32).1.f0 l.f0).2.1, (getBits b (rdRaw b (rdNum b (rdNum b s).1).1 32).1.f0 l.f0).2.2⟩ : SRS) xx_).1.f1)])), (2, (34, [.d (.int .i64 l.f0), .d (.int .i64 l.f1), .d (.int .i64 l.f2), .d (.int .i64 l.f3), .d (.int .i64 l.f4)])), (4, (38, [.d (.int .i64 0), .d (.int .i64 0), .nil, .nil, .nil])), (5, (38, [.d (.int .i64 (rdNum b s).2), .d (.int .i64 (rdNum b (rdNum b s).1).2), .row 4011 [], .row 1032 [], .row 100504 []]))] }) (fun xx_ => xx_ ≤ (bitList (getBits b (rdRaw b (rdNum b (rdNum b s).1).1 32).1.f0 l.f0).1).length) (fun xx_ => (bitList (getBits b (rdRaw b (rdNum b (rdNum b s).1).1 32).1.f0 l.f0).1).length - xx_) 0 ?_ ?_ ?_
  · refine Env.le_mk ⟨rfl, rfl, rfl, rfl, ?_, trivial⟩ ⟨rfl, rfl, ?_, trivial⟩ ⟨?_, rfl, rfl, rfl, trivial⟩ <;> (first | rfl | (refine congrArg (fun n => PV.one (.d (.int .i64 n))) ?_; first | omega | (simp; done)))
  · exact Nat.zero_le _
  ·
   intro i hx
   try dsimp only at hx ⊢
   have hl_ := rdTags_len b (⟨(getBits b (rdRaw b (rdNum b (rdNum b s).1).1 32).1.f0 l.f0).2.1, (getBits b (rdRaw b (rdNum b (rdNum b s).1).1 32).1.f0 l.f0).2.2⟩ : SRS) i
   have hz_ : (bitList []).length = 0 := rfl
   have hn_ := bitList_len (getBits b (rdRaw b (rdNum b (rdNum b s).1).1 32).1.f0 l.f0).1
   refine T.seq ?_
   refine T.region ?_
   refine TL.cons rfl (Step.bin rfl rfl (lt_ok rfl) rfl rfl (Bin.lss (k := .i64) (a := (i : Int)) (b := ((bitList (getBits b (rdRaw b (rdNum b (rdNum b s).1).1 32).1.f0 l.f0).1).length : Int)))) ?_
   refine TL.nil ?_
   refine T.seq ?_
   refine T.cond (b := decide ((i : Int) < ((bitList (getBits b (rdRaw b (rdNum b (rdNum b s).1).1 32).1.f0 l.f0).1).length : Int))) rfl (fun h8 => ?_) (fun h8 => ?_)
   ·
    replace h8 := of_decide_eq_true h8
    refine T.skip ?_
    refine T.seq ?_
    refine T.block ?_
    have nn9 := rdRaw_len b (rdTags b (⟨(getBits b (rdRaw b (rdNum b (rdNum b s).1).1 32).1.f0 l.f0).2.1, (getBits b (rdRaw b (rdNum b (rdNum b s).1).1 32).1.f0 l.f0).2.2⟩ : SRS) i).1 32
    refine T.drawX [{ dst := some 46, pv := (.one (.ptr 5 4)) }, { dst := some 47, pv := (.one (.row 100504 [])) }, { dst := some 48, pv := (.one (.ptr 800 0)) }, { dst := some 49, pv := (.one (.row 4049 [])), rows := [(4049, (5, (.ints .u8 (rdRaw b (rdTags b (⟨(getBits b (rdRaw b (rdNum b (rdNum b s).1).1 32).1.f0 l.f0).2.1, (getBits b (rdRaw b (rdNum b (rdNum b s).1).1 32).1.f0 l.f0).2.2⟩ : SRS) i).1 32).2)))], box := some (800, (144, [.d (.ints .u8 b), .d (.int .i64 (rdRaw b (rdTags b (⟨(getBits b (rdRaw b (rdNum b (rdNum b s).1).1 32).1.f0 l.f0).2.1, (getBits b (rdRaw b (rdNum b (rdNum b s).1).1 32).1.f0 l.f0).2.2⟩ : SRS) i).1 32).1.f0), .d (.int .i64 (rdRaw b (rdTags b (⟨(getBits b (rdRaw b (rdNum b (rdNum b s).1).1 32).1.f0 l.f0).2.1, (getBits b (rdRaw b (rdNum b (rdNum b s).1).1 32).1.f0 l.f0).2.2⟩ : SRS) i).1 32).1.f1)])) }, { dst := some 50, pv := (.one (.row 50 [])), rows := [(50, (24, (.bss [(rdRaw b (rdTags b (⟨(getBits b (rdRaw b (rdNum b (rdNum b s).1).1 32).1.f0 l.f0).2.1, (getBits b (rdRaw b (rdNum b (rdNum b s).1).1 32).1.f0 l.f0).2.2⟩ : SRS) i).1 32).2])))], dead := [4049] }, { dst := some 51, pv := (.one (.row 500051 [])), rows := [(500051, (24, (.bss ((rdTags b (⟨(getBits b (rdRaw b (rdNum b (rdNum b s).1).1 32).1.f0 l.f0).2.1, (getBits b (rdRaw b (rdNum b (rdNum b s).1).1 32).1.f0 l.f0).2.2⟩ : SRS) i).2 ++ [(rdRaw b (rdTags b (⟨(getBits b (rdRaw b (rdNum b (rdNum b s).1).1 32).1.f0 l.f0).2.1, (getBits b (rdRaw b (rdNum b (rdNum b s).1).1 32).1.f0 l.f0).2.2⟩ : SRS) i).1 32).2]))))], dead := [100504, 50] }, { dst := some 52, pv := (.one (.ptr 5 4)) }, { box := some (5, (38, [.d (.int .i64 (rdNum b s).2), .d (.int .i64 (rdNum b (rdNum b s).1).2), .row 4011 [], .row 1032 [], .row 500051 []])) }] (by kernel_rfl) (by kernel_rfl) ?_ ?_
    ·
     refine .cons (fun E hA_ => by have g5 : E.get 5 = (.one (.ptr 5 0)) := (hA_.get 5 (by kernel_rfl)).trans (by kernel_rfl); exact OpStep.plain rfl (Step.fieldAddr (q := 0) (off := 4) (n := 1) (one := true) (t := 46) rfl rfl (by exact lt_ok rfl) (by kernel_rfl) (Nat.succ_ne_zero _) (show Env.ev E (.tmp 5) = _ from g5.trans rfl))) ?_
     refine .cons (fun E hA_ => by have g46 : E.get 46 = (.one (.ptr 5 4)) := (hA_.get 46 (by kernel_rfl)).trans (by kernel_rfl); have b5 : E.box 5 = some (38, [.d (.int .i64 (rdNum b s).2), .d (.int .i64 (rdNum b (rdNum b s).1).2), .row 4011 [], .row 1032 [], .row 100504 []]) := (hA_.box 5 (by kernel_rfl)).trans (by kernel_rfl); exact OpStep.plain rfl (Step.load_box (c := .row 100504 []) (t := 47) rfl rfl (by exact lt_ok rfl) (by kernel_rfl) (show Env.ev E (.tmp 46) = _ from g46.trans rfl) b5 rfl)) ?_
     refine .cons (fun E hA_ => by have g1 : E.get 1 = (.one (.ptr 800 0)) := (hA_.get 1 (by kernel_rfl)).trans (by kernel_rfl); exact OpStep.plain rfl (Step.move (p := (.one (.ptr 800 0))) (t := 48) rfl rfl (by exact lt_ok rfl) (show Env.ev E (.tmp 1) = _ from g1.trans rfl))) ?_
     refine .cons (fun E hA_ => by have g48 : E.get 48 = (.one (.ptr 800 0)) := (hA_.get 48 (by kernel_rfl)).trans (by kernel_rfl); have b800 : E.box 800 = some (144, [.d (.ints .u8 b), .d (.int .i64 (rdTags b (⟨(getBits b (rdRaw b (rdNum b (rdNum b s).1).1 32).1.f0 l.f0).2.1, (getBits b (rdRaw b (rdNum b (rdNum b s).1).1 32).1.f0 l.f0).2.2⟩ : SRS) i).1.f0), .d (.int .i64 (rdTags b (⟨(getBits b (rdRaw b (rdNum b (rdNum b s).1).1 32).1.f0 l.f0).2.1, (getBits b (rdRaw b (rdNum b (rdNum b s).1).1 32).1.f0 l.f0).2.2⟩ : SRS) i).1.f1)]) := (hA_.box 800 (by kernel_rfl)).trans (by kernel_rfl); exact OpStep.plain rfl (Step.callXX2 (b := 800) (xs := [.tmp 48]) (ps := [(.one (.ptr 800 0))]) (bps := [.d (.ints .u8 b), .d (.int .i64 (rdTags b (⟨(getBits b (rdRaw b (rdNum b (rdNum b s).1).1 32).1.f0 l.f0).2.1, (getBits b (rdRaw b (rdNum b (rdNum b s).1).1 32).1.f0 l.f0).2.2⟩ : SRS) i).1.f0), .d (.int .i64 (rdTags b (⟨(getBits b (rdRaw b (rdNum b (rdNum b s).1).1 32).1.f0 l.f0).2.1, (getBits b (rdRaw b (rdNum b (rdNum b s).1).1 32).1.f0 l.f0).2.2⟩ : SRS) i).1.f1)]) (ss := []) (g := .func 137) (t := 49) (ok_impl_reader__hash b (rdTags b (⟨(getBits b (rdRaw b (rdNum b (rdNum b s).1).1 32).1.f0 l.f0).2.1, (getBits b (rdRaw b (rdNum b (rdNum b s).1).1 32).1.f0 l.f0).2.2⟩ : SRS) i).1 (by assumption) (by first | omega | assumption | (simp only [List.length_append] at *; omega))) rfl rfl (by exact lt_ok rfl) rfl (by kernel_rfl) (evs_cons (show Env.ev E (.tmp 48) = _ from g48.trans rfl) (rfl)) (.cons (.bx) .nil) b800 (.rd (.rd (.rd .nil))) rfl (handX_fresh (fun x_ hx_ => hA_.fresh x_ (by exact hx_))) (fun x hx => by have := hp x hx; omega) rfl (by simp [rowsOf, rid]))) ?_
     refine .cons (fun E hA_ => by have g49 : E.get 49 = (.one (.row 4049 [])) := (hA_.get 49 (by kernel_rfl)).trans (by kernel_rfl); have q4049 : E.row 4049 = some (5, (.ints .u8 (rdRaw b (rdTags b (⟨(getBits b (rdRaw b (rdNum b (rdNum b s).1).1 32).1.f0 l.f0).2.1, (getBits b (rdRaw b (rdNum b (rdNum b s).1).1 32).1.f0 l.f0).2.2⟩ : SRS) i).1 32).2)) := (hA_.row 4049 (by kernel_rfl)).trans (by kernel_rfl); exact OpStep.plain rfl (Step.litX (e := 24) (z := 1) (by_ := 24) (xs := [.tmp 49]) (pss := [[.row 4049 []]]) (es := [(.ints .u8 (rdRaw b (rdTags b (⟨(getBits b (rdRaw b (rdNum b (rdNum b s).1).1 32).1.f0 l.f0).2.1, (getBits b (rdRaw b (rdNum b (rdNum b s).1).1 32).1.f0 l.f0).2.2⟩ : SRS) i).1 32).2)]) (ss := [4049]) (d := (.bss [(rdRaw b (rdTags b (⟨(getBits b (rdRaw b (rdNum b (rdNum b s).1).1 32).1.f0 l.f0).2.1, (getBits b (rdRaw b (rdNum b (rdNum b s).1).1 32).1.f0 l.f0).2.2⟩ : SRS) i).1 32).2])) (t := 50) rfl rfl (by exact lt_ok rfl) (by kernel_rfl) rfl rfl (.cons (by exact (congrArg PV.flat (show Env.ev E (.tmp 49) = _ from g49.trans rfl)).trans rfl) .nil) (by simp) (le_ok rfl) (le_ok rfl) (by simp only [List.all_cons, List.all_nil, List.flatten_cons, List.flatten_nil, List.append_nil, List.cons_append, List.nil_append, Env.fine, q4049]; rfl) (.row q4049 (by simp) .nil) (hA_.fresh _ (List.mem_singleton.2 rfl)) (by simp) (fun x_ hx_ => by have := hp x_ hx_; omega) rfl trivial rfl rfl)) ?_
     refine .cons (fun E hA_ => by have g47 : E.get 47 = (.one (.row 100504 [])) := (hA_.get 47 (by kernel_rfl)).trans (by kernel_rfl); have g50 : E.get 50 = (.one (.row 50 [])) := (hA_.get 50 (by kernel_rfl)).trans (by kernel_rfl); have q50 : E.row 50 = some (24, (.bss [(rdRaw b (rdTags b (⟨(getBits b (rdRaw b (rdNum b (rdNum b s).1).1 32).1.f0 l.f0).2.1, (getBits b (rdRaw b (rdNum b (rdNum b s).1).1 32).1.f0 l.f0).2.2⟩ : SRS) i).1 32).2])) := (hA_.row 50 (by kernel_rfl)).trans (by kernel_rfl); have q100504 : E.row 100504 = some (24, (.bss (rdTags b (⟨(getBits b (rdRaw b (rdNum b (rdNum b s).1).1 32).1.f0 l.f0).2.1, (getBits b (rdRaw b (rdNum b (rdNum b s).1).1 32).1.f0 l.f0).2.2⟩ : SRS) i).2)) := (hA_.row 100504 (by kernel_rfl)).trans (by kernel_rfl); exact OpStep.plain rfl (Step.appendX (e := 24) (z := 1) (by_ := 24) (d := (.bss (rdTags b (⟨(getBits b (rdRaw b (rdNum b (rdNum b s).1).1 32).1.f0 l.f0).2.1, (getBits b (rdRaw b (rdNum b (rdNum b s).1).1 32).1.f0 l.f0).2.2⟩ : SRS) i).2)) (dy := (.bss [(rdRaw b (rdTags b (⟨(getBits b (rdRaw b (rdNum b (rdNum b s).1).1 32).1.f0 l.f0).2.1, (getBits b (rdRaw b (rdNum b (rdNum b s).1).1 32).1.f0 l.f0).2.2⟩ : SRS) i).1 32).2])) (d' := (.bss ((rdTags b (⟨(getBits b (rdRaw b (rdNum b (rdNum b s).1).1 32).1.f0 l.f0).2.1, (getBits b (rdRaw b (rdNum b (rdNum b s).1).1 32).1.f0 l.f0).2.2⟩ : SRS) i).2 ++ [(rdRaw b (rdTags b (⟨(getBits b (rdRaw b (rdNum b (rdNum b s).1).1 32).1.f0 l.f0).2.1, (getBits b (rdRaw b (rdNum b (rdNum b s).1).1 32).1.f0 l.f0).2.2⟩ : SRS) i).1 32).2]))) (ss := [50]) 500051 (t := 51) rfl rfl (by exact lt_ok rfl) (by kernel_rfl) (show Env.ev E (.tmp 47) = _ from g47.trans rfl) q100504 rfl (lt_ok rfl) (show Env.ev E (.tmp 50) = _ from g50.trans rfl) (.move q50) (by simp) rfl (by simp only [D.size, List.length_map]; first | omega | (simp; omega) | (simp only [List.length_append] at *; omega)) (by simp only [D.size, List.length_map]; first | omega | (simp; omega) | (simp only [List.length_append] at *; omega)) (fun x_ hx_ => by have := hp x_ hx_; omega) (hA_.fresh _ (List.mem_singleton.2 rfl)) (by simp) (fun x_ hx_ => by have := hp x_ hx_; omega))) ?_
     refine .cons (fun E hA_ => by have g5 : E.get 5 = (.one (.ptr 5 0)) := (hA_.get 5 (by kernel_rfl)).trans (by kernel_rfl); exact OpStep.plain rfl (Step.fieldAddr (q := 0) (off := 4) (n := 1) (one := true) (t := 52) rfl rfl (by exact lt_ok rfl) (by kernel_rfl) (Nat.succ_ne_zero _) (show Env.ev E (.tmp 5) = _ from g5.trans rfl))) ?_
     refine .cons (fun E hA_ => by have g51 : E.get 51 = (.one (.row 500051 [])) := (hA_.get 51 (by kernel_rfl)).trans (by kernel_rfl); have g52 : E.get 52 = (.one (.ptr 5 4)) := (hA_.get 52 (by kernel_rfl)).trans (by kernel_rfl); have q500051 : E.row 500051 = some (24, (.bss ((rdTags b (⟨(getBits b (rdRaw b (rdNum b (rdNum b s).1).1 32).1.f0 l.f0).2.1, (getBits b (rdRaw b (rdNum b (rdNum b s).1).1 32).1.f0 l.f0).2.2⟩ : SRS) i).2 ++ [(rdRaw b (rdTags b (⟨(getBits b (rdRaw b (rdNum b (rdNum b s).1).1 32).1.f0 l.f0).2.1, (getBits b (rdRaw b (rdNum b (rdNum b s).1).1 32).1.f0 l.f0).2.2⟩ : SRS) i).1 32).2]))) := (hA_.row 500051 (by kernel_rfl)).trans (by kernel_rfl); have b5 : E.box 5 = some (38, [.d (.int .i64 (rdNum b s).2), .d (.int .i64 (rdNum b (rdNum b s).1).2), .row 4011 [], .row 1032 [], .row 100504 []]) := (hA_.box 5 (by kernel_rfl)).trans (by kernel_rfl); exact OpStep.plain rfl (Step.store_box (n := 1) (p := (.one (.row 500051 []))) (qs := [.row 500051 []]) (ps' := [.d (.int .i64 (rdNum b s).2), .d (.int .i64 (rdNum b (rdNum b s).1).2), .row 4011 [], .row 1032 [], .row 500051 []]) rfl rfl (by kernel_rfl) (show Env.ev E (.tmp 52) = _ from g52.trans rfl) b5 (show Env.ev E (.tmp 51) = _ from g51.trans rfl) rfl rfl (by simp only [List.all_cons, List.all_nil, List.flatten_cons, List.flatten_nil, List.append_nil, List.cons_append, List.nil_append, Env.fine, q500051]; rfl) (le_ok rfl) rfl)) ?_
     exact .nil _ _
    refine TL.weaken (E' := { tm := [(1, (.one (.ptr 800 0))), (4, (.one (.ptr 4 0))), (5, (.one (.ptr 5 0))), (43, (.one (.d (.int .i64 ((bitList (getBits b (rdRaw b (rdNum b (rdNum b s).1).1 32).1.f0 l.f0).1).length : Int))))), (44, (.one (.d (.int .i64 (i : Int))))), (45, (.one (.d (.bool (decide ((i : Int) < ((bitList (getBits b (rdRaw b (rdNum b (rdNum b s).1).1 32).1.f0 l.f0).1).length : Int))))))), (46, (.one (.ptr 5 4))), (48, (.one (.ptr 800 0))), (51, (.one (.row 500051 []))), (52, (.one (.ptr 5 4)))], rows := [(4011, (5, (.ints .u8 (rdRaw b (rdNum b (rdNum b s).1).1 32).2))), (1032, (5, (.ints .u8 (getBits b (rdRaw b (rdNum b (rdNum b s).1).1 32).1.f0 l.f0).1))), (500051, (24, (.bss ((rdTags b (⟨(getBits b (rdRaw b (rdNum b (rdNum b s).1).1 32).1.f0 l.f0).2.1, (getBits b (rdRaw b (rdNum b (rdNum b s).1).1 32).1.f0 l.f0).2.2⟩ : SRS) i).2 ++ [(rdRaw b (rdTags b (⟨(getBits b (rdRaw b (rdNum b (rdNum b s).1).1 32).1.f0 l.f0).2.1, (getBits b (rdRaw b (rdNum b (rdNum b s).1).1 32).1.f0 l.f0).2.2⟩ : SRS) i).1 32).2]))))], boxes := [(800, (144, [.d (.ints .u8 b), .d (.int .i64 (rdRaw b (rdTags b (⟨(getBits b (rdRaw b (rdNum b (rdNum b s).1).1 32).1.f0 l.f0).2.1, (getBits b (rdRaw b (rdNum b (rdNum b s).1).1 32).1.f0 l.f0).2.2⟩ : SRS) i).1 32).1.f0), .d (.int .i64 (rdRaw b (rdTags b (⟨(getBits b (rdRaw b (rdNum b (rdNum b s).1).1 32).1.f0 l.f0).2.1, (getBits b (rdRaw b (rdNum b (rdNum b s).1).1 32).1.f0 l.f0).2.2⟩ : SRS) i).1 32).1.f1)])), (2, (34, [.d (.int .i64 l.f0), .d (.int .i64 l.f1), .d (.int .i64 l.f2), .d (.int .i64 l.f3), .d (.int .i64 l.f4)])), (4, (38, [.d (.int .i64 0), .d (.int .i64 0), .nil, .nil, .nil])), (5, (38, [.d (.int .i64 (rdNum b s).2), .d (.int .i64 (rdNum b (rdNum b s).1).2), .row 4011 [], .row 1032 [], .row 500051 []]))] }) (Env.le_mk ⟨by kernel_rfl, by kernel_rfl, by kernel_rfl, by kernel_rfl, by kernel_rfl, by kernel_rfl, by kernel_rfl, by kernel_rfl, by kernel_rfl, by kernel_rfl, trivial⟩ ⟨by kernel_rfl, by kernel_rfl, by kernel_rfl, trivial⟩ ⟨by kernel_rfl, by kernel_rfl, by kernel_rfl, by kernel_rfl, trivial⟩) ?_
    refine TL.ren 500051 100504 rfl (fun x hx => by have := hp x hx; omega) ?_
    refine TL.nil ?_
    refine T.region ?_
    refine TL.cons rfl (Step.bin (r := .int .i64 ((i : Int) + 1)) rfl rfl (lt_ok rfl) rfl rfl (Bin.add (a := (i : Int)) (b := 1) (by first | exact wrap_ok (by first | omega | (simp; omega)) (by first | omega | (simp; omega)) | rfl))) ?_
    refine TL.cons rfl (Step.move (p := (.one (.d (.int .i64 ((i : Int) + 1))))) rfl rfl (lt_ok rfl) rfl) ?_
    refine TL.nil ?_
    refine ⟨i + 1, by omega, by first | omega | (dsimp only; omega), Env.le_mk ⟨rfl, rfl, rfl, rfl, ?_, trivial⟩ ⟨rfl, rfl, ?_, trivial⟩ ⟨?_, rfl, rfl, rfl, trivial⟩⟩ <;> (first | rfl | (refine congrArg (fun n => PV.one (.d (.int .i64 n))) ?_; first | omega | (simp; done)))
   ·
    replace h8 := of_decide_eq_false h8
    refine T.exit ?_
    refine T.seq ?_
    refine T.region ?_
    refine TL.cons rfl (Step.load_box_agg (n := 5) (qs := [.d (.int .i64 (rdNum b s).2), .d (.int .i64 (rdNum b (rdNum b s).1).2), .row 4011 [], .row 1032 [], .row 100504 []]) rfl rfl (lt_ok rfl) (by kernel_rfl) rfl rfl rfl rfl) ?_
    refine TL.cons rfl (Step.store_box (n := 5) (p := (.agg [.d (.int .i64 (rdNum b s).2), .d (.int .i64 (rdNum b (rdNum b s).1).2), .row 4011 [], .row 1032 [], .row 100504 []])) (qs := [.d (.int .i64 (rdNum b s).2), .d (.int .i64 (rdNum b (rdNum b s).1).2), .row 4011 [], .row 1032 [], .row 100504 []]) (ps' := [.d (.int .i64 (rdNum b s).2), .d (.int .i64 (rdNum b (rdNum b s).1).2), .row 4011 [], .row 1032 [], .row 100504 []]) rfl rfl (by kernel_rfl) rfl rfl rfl rfl rfl rfl (le_ok rfl) rfl) ?_
    refine TL.nil ?_
    refine T.ret ?_
    refine ⟨[.d (.ints .u8 b), .d (.int .i64 (rdTags b (⟨(getBits b (rdRaw b (rdNum b (rdNum b s).1).1 32).1.f0 l.f0).2.1, (getBits b (rdRaw b (rdNum b (rdNum b s).1).1 32).1.f0 l.f0).2.2⟩ : SRS) i).1.f0), .d (.int .i64 (rdTags b (⟨(getBits b (rdRaw b (rdNum b (rdNum b s).1).1 32).1.f0 l.f0).2.1, (getBits b (rdRaw b (rdNum b (rdNum b s).1).1 32).1.f0 l.f0).2.2⟩ : SRS) i).1.f1)], [(true, [.d (.int .i64 (rdNum b s).2), .d (.int .i64 (rdNum b (rdNum b s).1).2), .row 4011 [], .row 1032 [], .row 100504 []])], rfl, rfl, (.cons rfl .nil), rfl, [4011, 1032, 100504], (RetC.rd' rfl (RetC.rd' ?_ (RetC.rd' ?_ (RetC.rd' ?_ (RetC.rd' ?_ (RetC.own' rfl ?_ rfl (RetC.own' rfl ?_ rfl (RetC.own' rfl ?_ rfl .nil))))))))⟩ <;> (first | rfl | (congr 1; unfold rdQc; first | (rw [Nat.le_antisymm hx (by omega)]; first | (rw [rdQcA_yes (s := rdQc3 b s) (by show (rdRaw b (rdNum b (rdNum b s).1).1 32).1.f1 = 0; omega)]; first | done | rfl) | (rw [rdQcA_no (s := rdQc3 b s) (by assumption)]; first | done | rfl)) | (rw [rdQcA_yes (s := rdQc3 b s) (by show (rdRaw b (rdNum b (rdNum b s).1).1 32).1.f1 = 0; omega)]; first | done | rfl) | (rw [rdQcA_no (s := rdQc3 b s) (by assumption)]; first | done | rfl)) | (simp only [D.size, List.length_map]; unfold rdQc; first | (rw [Nat.le_antisymm hx (by omega)]; first | (rw [rdQcA_yes (s := rdQc3 b s) (by show (rdRaw b (rdNum b (rdNum b s).1).1 32).1.f1 = 0; omega)]; first | done | rfl) | (rw [rdQcA_no (s := rdQc3 b s) (by assumption)]; first | done | rfl)) | (rw [rdQcA_yes (s := rdQc3 b s) (by show (rdRaw b (rdNum b (rdNum b s).1).1 32).1.f1 = 0; omega)]; first | done | rfl) | (rw [rdQcA_no (s := rdQc3 b s) (by assumption)]; first | done | rfl)))
theorem ok_impl_reader__must (b : List Int) (s : SRS) (k : Bool) (c : Int) (h0_ : U8s b) (h1_ : b.length ≤ 1048576) : BX Try.prog 142 [.bx, .rd (.one (.bool k)), .rd (.one (.int .i64 c))] 144 [.rd (.ints .u8 b), .rd (.int .i64 s.f0), .rd (.int .i64 s.f1)] [.rd (.ints .u8 b), .rd (.int .i64 (rdMust s k c).f0), .rd (.int .i64 (rdMust s k c).f1)] [] := by
 refine BX.intro Try.func142 rfl 19 rfl (le_ok rfl) (le_ok rfl) fun w Z IX pin hp => ?_
 refine T.seq ?_
 refine T.region ?_
 refine TL.cons rfl (Step.move (p := (.one (.ptr 800 0))) rfl rfl (lt_ok rfl) rfl) ?_
 refine TL.cons rfl (Step.nilCheck rfl rfl (lt_ok rfl) rfl) ?_
 refine TL.cons rfl (Step.fieldAddr (q := 0) (off := 2) (n := 1) (one := true) rfl rfl (lt_ok rfl) (by kernel_rfl) (Nat.succ_ne_zero _) rfl) ?_
 refine TL.cons rfl (Step.load_box (c := .d (.int .i64 s.f1)) rfl rfl (lt_ok rfl) (by kernel_rfl) rfl rfl rfl) ?_
 refine TL.cons rfl (Step.bin rfl rfl (lt_ok rfl) rfl rfl (Bin.eql (k := .i64) (a := s.f1) (b := 0))) ?_
 refine TL.cons rfl (Step.move (p := (.one (.d (.bool (decide (s.f1 = 0)))))) rfl rfl (lt_ok rfl) rfl) ?_
 rcases Bool.eq_false_or_eq_true (decide (s.f1 = 0)) with hb1 | hb1
 ·
  refine TL.known 11 hb1 rfl ?_
  have hb1' := hb1
  replace hb1' := of_decide_eq_true hb1'
  refine TL.gyes 11 rfl rfl (lt_ok rfl) rfl (Step.move (p := (.one (.d (.bool k)))) rfl rfl (lt_ok rfl) rfl) ?_
  refine TL.gyes 11 rfl rfl (lt_ok rfl) rfl (Step.not (b := k) rfl rfl (lt_ok rfl) rfl) ?_
  refine TL.cons rfl (Step.pick (b := true) (p := (.one (.d (.bool (!k))))) rfl rfl (lt_ok rfl) rfl rfl) ?_
  refine TL.nil ?_
  refine T.cond (b := !k) rfl (fun h2 => ?_) (fun h2 => ?_)
  ·
   replace h2 : (k) = false := by simpa only [Bool.not_eq_true', Bool.not_eq_false'] using h2
   refine T.region ?_
   refine TL.cons rfl (Step.move (p := (.one (.ptr 800 0))) rfl rfl (lt_ok rfl) rfl) ?_
   refine TL.cons rfl (Step.move (p := (.one (.d (.int .i64 c)))) rfl rfl (lt_ok rfl) rfl) ?_
   refine TL.cons rfl (Step.nilCheck rfl rfl (lt_ok rfl) rfl) ?_
   refine TL.cons rfl (Step.fieldAddr (q := 0) (off := 2) (n := 1) (one := true) rfl rfl (lt_ok rfl) (by kernel_rfl) (Nat.succ_ne_zero _) rfl) ?_
   refine TL.cons rfl (Step.store_box (n := 1) (p := (.one (.d (.int .i64 c)))) (qs := [.d (.int .i64 c)]) (ps' := [.d (.ints .u8 b), .d (.int .i64 s.f0), .d (.int .i64 c)]) rfl rfl (by kernel_rfl) rfl rfl rfl rfl rfl rfl (le_ok rfl) rfl) ?_
   refine TL.nil ?_
   refine ⟨[.d (.ints .u8 b), .d (.int .i64 s.f0), .d (.int .i64 c)], [], rfl, rfl, .nil, rfl, [], (RetC.rd' rfl (RetC.rd' ?_ (RetC.rd' ?_ .nil)))⟩ <;> (first | rfl | (congr 1; first | (rw [rdMust_er (by omega)]; done) | (rw [rdMust_ok (by first | assumption | (rw [hk_, show bad = true from by assumption]; rfl) | (rw [hk_, show bad = false from by assumption]; rfl))]; done) | (rw [rdMust_hit (by omega) (by first | assumption | (rw [hk_, show bad = true from by assumption]; rfl) | (rw [hk_, show bad = false from by assumption]; rfl))]; done)))
  ·
   replace h2 : (k) = true := by simpa only [Bool.not_eq_true', Bool.not_eq_false'] using h2
   refine T.skip ?_
   refine ⟨[.d (.ints .u8 b), .d (.int .i64 s.f0), .d (.int .i64 s.f1)], [], rfl, rfl, .nil, rfl, [], (RetC.rd' rfl (RetC.rd' ?_ (RetC.rd' ?_ .nil)))⟩ <;> (first | rfl | (congr 1; first | (rw [rdMust_er (by omega)]; done) | (rw [rdMust_ok (by first | assumption | (rw [hk_, show bad = true from by assumption]; rfl) | (rw [hk_, show bad = false from by assumption]; rfl))]; done) | (rw [rdMust_hit (by omega) (by first | assumption | (rw [hk_, show bad = true from by assumption]; rfl) | (rw [hk_, show bad = false from by assumption]; rfl))]; done)))
 ·
  refine TL.known 11 hb1 rfl ?_
  have hb1' := hb1
  replace hb1' := of_decide_eq_false hb1'
  refine TL.goff 11 rfl rfl (lt_ok rfl) rfl rfl rfl (lt_ok rfl) ?_
  refine TL.goff 11 rfl rfl (lt_ok rfl) rfl rfl rfl (lt_ok rfl) ?_
  refine TL.cons rfl (Step.pick (b := false) (p := (.one (.d (.bool false)))) rfl rfl (lt_ok rfl) rfl rfl) ?_
  refine TL.nil ?_
  refine T.cond (b := false) rfl (fun h3_ => absurd h3_ (by simp)) (fun h3_ => ?_)
  refine T.skip ?_
  refine ⟨[.d (.ints .u8 b), .d (.int .i64 s.f0), .d (.int .i64 s.f1)], [], rfl, rfl, .nil, rfl, [], (RetC.rd' rfl (RetC.rd' ?_ (RetC.rd' ?_ .nil)))⟩ <;> (first | rfl | (congr 1; first | (rw [rdMust_er (by omega)]; done) | (rw [rdMust_ok (by first | assumption | (rw [hk_, show bad = true from by assumption]; rfl) | (rw [hk_, show bad = false from by assumption]; rfl))]; done) | (rw [rdMust_hit (by omega) (by first | assumption | (rw [hk_, show bad = true from by assumption]; rfl) | (rw [hk_, show bad = false from by assumption]; rfl))]; done)))
theorem ok_impl_reader__below (b : List Int) (s : SRS) (n : Int) (c : Int) (h0_ : U8s b) (h1_ : b.length ≤ 1048576) : BX Try.prog 143 [.bx, .rd (.one (.int .i64 n)), .rd (.one (.int .i64 c))] 144 [.rd (.ints .u8 b), .rd (.int .i64 s.f0), .rd (.int .i64 s.f1)] [.rd (.ints .u8 b), .rd (.int .i64 (rdBelow b s n c).1.f0), .rd (.int .i64 (rdBelow b s n c).1.f1)] [(false, [.rd (.int .i64 (rdBelow b s n c).2)])] := by
 refine BX.intro Try.func143 rfl 17 rfl (le_ok rfl) (le_ok rfl) fun w Z IX pin hp => ?_
 refine T.seq ?_
 refine T.region ?_
 refine TL.cons rfl (Step.assign (p := (.one (.d (.int .i64 0)))) rfl rfl (lt_ok rfl) rfl) ?_
 refine TL.nil ?_
 refine T.seq ?_
 refine T.region ?_
 refine TL.cons rfl (Step.move (p := (.one (.ptr 800 0))) rfl rfl (lt_ok rfl) rfl) ?_
 have nn1 := @rdNum_bd b (by assumption) s
 refine TL.cons rfl (Step.callX2 (b := 800) (xs := [.tmp 8]) (ps := [(.one (.ptr 800 0))]) (bps := [.d (.ints .u8 b), .d (.int .i64 s.f0), .d (.int .i64 s.f1)]) (ss := []) (g := .func 136) (ok_impl_reader__num b s (by assumption) (by first | omega | assumption | (simp only [List.length_append] at *; omega))) rfl rfl (lt_ok rfl) rfl (by kernel_rfl) rfl (.cons (.bx) .nil) rfl (.rd (.rd (.rd .nil))) rfl rfl (fun x hx => by have := hp x hx; omega) rfl) ?_
 refine TL.cons rfl (Step.assign (p := (.one (.d (.int .i64 (rdNum b s).2)))) rfl rfl (lt_ok rfl) rfl) ?_
 refine TL.nil ?_
 refine T.seq ?_
 refine T.region ?_
 refine TL.cons rfl (Step.move (p := (.one (.ptr 800 0))) rfl rfl (lt_ok rfl) rfl) ?_
 refine TL.cons rfl (Step.move (p := (.one (.d (.int .i64 (rdNum b s).2)))) rfl rfl (lt_ok rfl) rfl) ?_
 refine TL.cons rfl (Step.move (p := (.one (.d (.int .i64 n)))) rfl rfl (lt_ok rfl) rfl) ?_
 refine TL.cons rfl (Step.bin rfl rfl (lt_ok rfl) rfl rfl (Bin.lss (k := .i64) (a := (rdNum b s).2) (b := n))) ?_
 refine TL.cons rfl (Step.move (p := (.one (.d (.int .i64 c)))) rfl rfl (lt_ok rfl) rfl) ?_
 refine TL.cons rfl (Step.callX2 (b := 800) (xs := [.tmp 10, .tmp 13, .tmp 14]) (ps := [(.one (.ptr 800 0)), (.one (.d (.bool (decide ((rdNum b s).2 < n))))), (.one (.d (.int .i64 c)))]) (bps := [.d (.ints .u8 b), .d (.int .i64 (rdNum b s).1.f0), .d (.int .i64 (rdNum b s).1.f1)]) (ss := []) (g := .func 142) (ok_impl_reader__must b (rdNum b s).1 (decide ((rdNum b s).2 < n)) c (by assumption) (by first | omega | assumption | (simp only [List.length_append] at *; omega))) rfl rfl (lt_ok rfl) rfl (by kernel_rfl) rfl (.cons (.bx) (.cons (.rd (.one (.d _))) (.cons (.rd (.one (.d _))) .nil))) rfl (.rd (.rd (.rd .nil))) rfl rfl (fun x hx => by have := hp x hx; omega) rfl) ?_
 refine TL.nil ?_
 refine T.seq ?_
 refine T.region ?_
 refine TL.cons rfl (Step.move (p := (.one (.d (.int .i64 (rdNum b s).2)))) rfl rfl (lt_ok rfl) rfl) ?_
 refine TL.cons rfl (Step.assign (p := (.one (.d (.int .i64 (rdNum b s).2)))) rfl rfl (lt_ok rfl) rfl) ?_
 refine TL.nil ?_
 refine T.ret ?_
 refine ⟨[.d (.ints .u8 b), .d (.int .i64 (rdMust (rdNum b s).1 (decide ((rdNum b s).2 < n)) c).f0), .d (.int .i64 (rdMust (rdNum b s).1 (decide ((rdNum b s).2 < n)) c).f1)], [(false, [.d (.int .i64 (rdNum b s).2)])], rfl, rfl, (.cons rfl .nil), rfl, [], (RetC.rd' rfl (RetC.rd' ?_ (RetC.rd' ?_ (RetC.rd' ?_ .nil))))⟩ <;> (rfl)
theorem ok_impl_SameBytes (a : List Int) (b : List Int) (h0_ : U8s a) (h1_ : U8s b) : RO Try.prog 107 [.one (.ints .u8 a), .one (.ints .u8 b)] [(false, [.rd (.bool (decide (a = b)))])] := by
 refine RO.intro Try.func107 rfl 10 rfl (le_ok rfl) fun w Z => ?_
 refine T.bnd 0 0 rfl rfl fun hb_0_0 => ?_
 simp only [D.size, List.length_map] at hb_0_0
 refine T.bnd 1 0 rfl rfl fun hb_1_0 => ?_
 simp only [D.size, List.length_map] at hb_1_0
 refine T.seq ?_
 refine T.region ?_
 refine TL.cons rfl (Step.assign (p := (.one (.d (.bool false)))) rfl rfl (lt_ok rfl) rfl) ?_
 refine TL.nil ?_
 refine T.seq ?_
 refine T.region ?_
 refine TL.cons rfl (Step.move (p := (.one (.d (.ints .u8 a)))) rfl rfl (lt_ok rfl) rfl) ?_
 refine TL.cons rfl (Step.toStr (e := 5) (xs := a) rfl rfl (lt_ok rfl) (by kernel_rfl) (by kernel_rfl) (by kernel_rfl) rfl rfl) ?_
 refine TL.cons rfl (Step.move (p := (.one (.d (.ints .u8 b)))) rfl rfl (lt_ok rfl) rfl) ?_
 refine TL.cons rfl (Step.toStr (e := 5) (xs := b) rfl rfl (lt_ok rfl) (by kernel_rfl) (by kernel_rfl) (by kernel_rfl) rfl rfl) ?_
 refine TL.cons rfl (Step.bin rfl rfl (lt_ok rfl) rfl rfl Bin.streq) ?_
 refine TL.cons rfl (Step.assign (p := (.one (.d (.bool ((strOfNums a).toList == (strOfNums b).toList))))) rfl rfl (lt_ok rfl) rfl) ?_
 refine TL.nil ?_
 refine T.ret ?_
 refine ⟨[(false, [.d (.bool ((strOfNums a).toList == (strOfNums b).toList))])], (.cons rfl .nil), rfl, [], (RetC.rd' ?_ .nil)⟩ <;> (exact congrArg D.bool (str_eq h0_ h1_))
theorem ok_impl_Head__matches (h : SHead) (h0_ : h.ok) : RO Try.prog 144 [.agg h.cells] [(false, [.rd (.bool (headFits h))])] := by
 refine RO.intro Try.func144 rfl 26 rfl (le_ok rfl) fun w Z => ?_
 obtain ⟨o0, o1, o2, o3, o4, o5, o6, o7, o8, o9⟩ := h0_
 refine T.seq ?_
 refine T.region ?_
 refine TL.cons rfl (Step.box (p := (.agg [.d (.int .i64 h.f0), .d (.int .i64 h.f1), .d (.int .i64 h.f2), .d (.ints .u8 h.f3), .d (.ints .u8 h.f4), .d (.int .i64 h.f5.f0), .d (.int .i64 h.f5.f1), .d (.ints .u8 h.f5.f2), .d (.ints .u8 h.f5.f3), .d (.bss h.f5.f4)])) (ps := [.d (.int .i64 h.f0), .d (.int .i64 h.f1), .d (.int .i64 h.f2), .d (.ints .u8 h.f3), .d (.ints .u8 h.f4), .d (.int .i64 h.f5.f0), .d (.int .i64 h.f5.f1), .d (.ints .u8 h.f5.f2), .d (.ints .u8 h.f5.f3), .d (.bss h.f5.f4)]) rfl rfl (lt_ok rfl) rfl rfl rfl rfl rfl) ?_
 refine TL.cons rfl (Step.assign (p := (.one (.d (.bool false)))) rfl rfl (lt_ok rfl) rfl) ?_
 refine TL.nil ?_
 refine T.seq ?_
 refine T.region ?_
 refine TL.cons rfl (Step.fieldAddr (q := 0) (off := 5) (n := 5) (one := false) rfl rfl (lt_ok rfl) (by kernel_rfl) (Nat.succ_ne_zero _) rfl) ?_
 refine TL.cons rfl (Step.fieldAddr (q := 5) (off := 0) (n := 1) (one := true) rfl rfl (lt_ok rfl) (by kernel_rfl) (Nat.succ_ne_zero _) rfl) ?_
 refine TL.cons rfl (Step.load_box (c := .d (.int .i64 h.f5.f0)) rfl rfl (lt_ok rfl) (by kernel_rfl) rfl rfl rfl) ?_
 refine TL.cons rfl (Step.fieldAddr (q := 0) (off := 0) (n := 1) (one := true) rfl rfl (lt_ok rfl) (by kernel_rfl) (Nat.succ_ne_zero _) rfl) ?_
 refine TL.cons rfl (Step.load_box (c := .d (.int .i64 h.f0)) rfl rfl (lt_ok rfl) (by kernel_rfl) rfl rfl rfl) ?_
 refine TL.cons rfl (Step.bin rfl rfl (lt_ok rfl) rfl rfl (Bin.lss (k := .i64) (a := h.f5.f0) (b := h.f0))) ?_
 refine TL.cons rfl (Step.move (p := (.one (.d (.bool (decide (h.f5.f0 < h.f0)))))) rfl rfl (lt_ok rfl) rfl) ?_
 rcases Bool.eq_false_or_eq_true (decide (h.f5.f0 < h.f0)) with hb1 | hb1
 ·
  refine TL.known 9 hb1 rfl ?_
  refine TL.gyes 9 rfl rfl (lt_ok rfl) rfl (Step.fieldAddr (q := 0) (off := 5) (n := 5) (one := false) rfl rfl (lt_ok rfl) (by kernel_rfl) (Nat.succ_ne_zero _) rfl) ?_
  refine TL.gyes 9 rfl rfl (lt_ok rfl) rfl (Step.fieldAddr (q := 5) (off := 1) (n := 1) (one := true) rfl rfl (lt_ok rfl) (by kernel_rfl) (Nat.succ_ne_zero _) rfl) ?_
  refine TL.gyes 9 rfl rfl (lt_ok rfl) rfl (Step.load_box (c := .d (.int .i64 h.f5.f1)) rfl rfl (lt_ok rfl) (by kernel_rfl) rfl rfl rfl) ?_
  refine TL.gyes 9 rfl rfl (lt_ok rfl) rfl (Step.fieldAddr (q := 0) (off := 1) (n := 1) (one := true) rfl rfl (lt_ok rfl) (by kernel_rfl) (Nat.succ_ne_zero _) rfl) ?_
  refine TL.gyes 9 rfl rfl (lt_ok rfl) rfl (Step.load_box (c := .d (.int .i64 h.f1)) rfl rfl (lt_ok rfl) (by kernel_rfl) rfl rfl rfl) ?_
  refine TL.gyes 9 rfl rfl (lt_ok rfl) rfl (Step.bin (r := .int .i64 (IntKind.i64.wrap (h.f1 - 1))) rfl rfl (lt_ok rfl) rfl rfl (Bin.sub (a := h.f1) (b := 1) (rfl))) ?_
  refine TL.gyes 9 rfl rfl (lt_ok rfl) rfl (Step.bin rfl rfl (lt_ok rfl) rfl rfl (Bin.eql (k := .i64) (a := h.f5.f1) (b := (IntKind.i64.wrap (h.f1 - 1))))) ?_
  refine TL.cons rfl (Step.pick (b := true) (p := (.one (.d (.bool (decide (h.f5.f1 = (IntKind.i64.wrap (h.f1 - 1)))))))) rfl rfl (lt_ok rfl) rfl rfl) ?_
  refine TL.cons rfl (Step.move (p := (.one (.d (.bool (decide (h.f5.f1 = (IntKind.i64.wrap (h.f1 - 1)))))))) rfl rfl (lt_ok rfl) rfl) ?_
  rcases Bool.eq_false_or_eq_true (decide (h.f5.f1 = (IntKind.i64.wrap (h.f1 - 1)))) with hb2 | hb2
  ·
   refine TL.known 18 hb2 rfl ?_
   refine TL.gyes 18 rfl rfl (lt_ok rfl) rfl (Step.fieldAddr (q := 0) (off := 5) (n := 5) (one := false) rfl rfl (lt_ok rfl) (by kernel_rfl) (Nat.succ_ne_zero _) rfl) ?_
   refine TL.gyes 18 rfl rfl (lt_ok rfl) rfl (Step.fieldAddr (q := 5) (off := 2) (n := 1) (one := true) rfl rfl (lt_ok rfl) (by kernel_rfl) (Nat.succ_ne_zero _) rfl) ?_
   refine TL.gyes 18 rfl rfl (lt_ok rfl) rfl (Step.load_box (c := .d (.ints .u8 h.f5.f2)) rfl rfl (lt_ok rfl) (by kernel_rfl) rfl rfl rfl) ?_
   refine TL.gyes 18 rfl rfl (lt_ok rfl) rfl (Step.fieldAddr (q := 0) (off := 3) (n := 1) (one := true) rfl rfl (lt_ok rfl) (by kernel_rfl) (Nat.succ_ne_zero _) rfl) ?_
   refine TL.gyes 18 rfl rfl (lt_ok rfl) rfl (Step.load_box (c := .d (.ints .u8 h.f3)) rfl rfl (lt_ok rfl) (by kernel_rfl) rfl rfl rfl) ?_
   refine TL.gyes 18 rfl rfl (lt_ok rfl) rfl (Step.call (f := 107) (xs := [.tmp 21, .tmp 23]) (ps := [(.one (.d (.ints .u8 h.f5.f2))), (.one (.d (.ints .u8 h.f3)))]) false (g := .func 107) rfl rfl (lt_ok rfl) rfl (by kernel_rfl) rfl (.cons (.one (.d _)) (.cons (.one (.d _)) .nil)) (ok_impl_SameBytes h.f5.f2 h.f3 (by first | assumption | omega) (by first | assumption | omega)) (.inr rfl) rfl (by simp) rfl) ?_
   refine TL.cons rfl (Step.pick (b := true) (p := (.one (.d (.bool (decide (h.f5.f2 = h.f3)))))) rfl rfl (lt_ok rfl) rfl rfl) ?_
   refine TL.cons rfl (Step.assign (p := (.one (.d (.bool (decide (h.f5.f2 = h.f3)))))) rfl rfl (lt_ok rfl) rfl) ?_
   refine TL.nil ?_
   refine T.ret ?_
   refine ⟨[(false, [.d (.bool (decide (h.f5.f2 = h.f3)))])], (.cons rfl .nil), rfl, [], (RetC.rd' ?_ .nil)⟩ <;> (first | rfl | (congr 1; symm; simp only [headFits, *, Bool.and_true, Bool.true_and, Bool.and_false, Bool.false_and, decide_true, decide_false, and_true, true_and, and_self, and_false, false_and, Bool.and_self, not_true, not_false, Bool.not_true, Bool.not_false, ge_iff_le, gt_iff_lt, if_true, if_false, Bool.false_eq_true, ite_true, ite_false, reduceIte]; done) | (congr 1; symm; simp_all [headFits]; done) | (congr 1; symm; simp_all [headFits]; omega))
  ·
   refine TL.known 18 hb2 rfl ?_
   refine TL.goff 18 rfl rfl (lt_ok rfl) rfl rfl rfl (lt_ok rfl) ?_
   refine TL.goff 18 rfl rfl (lt_ok rfl) rfl rfl rfl (lt_ok rfl) ?_
   refine TL.goff 18 rfl rfl (lt_ok rfl) rfl rfl rfl (lt_ok rfl) ?_
   refine TL.goff 18 rfl rfl (lt_ok rfl) rfl rfl rfl (lt_ok rfl) ?_
   refine TL.goff 18 rfl rfl (lt_ok rfl) rfl rfl rfl (lt_ok rfl) ?_
   refine TL.goff 18 rfl rfl (lt_ok rfl) rfl rfl rfl (lt_ok rfl) ?_
   refine TL.cons rfl (Step.pick (b := false) (p := (.one (.d (.bool false)))) rfl rfl (lt_ok rfl) rfl rfl) ?_
   refine TL.cons rfl (Step.assign (p := (.one (.d (.bool false)))) rfl rfl (lt_ok rfl) rfl) ?_
   refine TL.nil ?_
   refine T.ret ?_
   refine ⟨[(false, [.d (.bool false)])], (.cons rfl .nil), rfl, [], (RetC.rd' ?_ .nil)⟩ <;> (first | rfl | (congr 1; symm; simp only [headFits, *, Bool.and_true, Bool.true_and, Bool.and_false, Bool.false_and, decide_true, decide_false, and_true, true_and, and_self, and_false, false_and, Bool.and_self, not_true, not_false, Bool.not_true, Bool.not_false, ge_iff_le, gt_iff_lt, if_true, if_false, Bool.false_eq_true, ite_true, ite_false, reduceIte]; done) | (congr 1; symm; simp_all [headFits]; done) | (congr 1; symm; simp_all [headFits]; omega))
 ·
  refine TL.known 9 hb1 rfl ?_
  refine TL.goff 9 rfl rfl (lt_ok rfl) rfl rfl rfl (lt_ok rfl) ?_
  refine TL.goff 9 rfl rfl (lt_ok rfl) rfl rfl rfl (lt_ok rfl) ?_
  refine TL.goff 9 rfl rfl (lt_ok rfl) rfl rfl rfl (lt_ok rfl) ?_
  refine TL.goff 9 rfl rfl (lt_ok rfl) rfl rfl rfl (lt_ok rfl) ?_
  refine TL.goff 9 rfl rfl (lt_ok rfl) rfl rfl rfl (lt_ok rfl) ?_
  refine TL.goff 9 rfl rfl (lt_ok rfl) rfl rfl rfl (lt_ok rfl) ?_
  refine TL.goff 9 rfl rfl (lt_ok rfl) rfl rfl rfl (lt_ok rfl) ?_
  refine TL.cons rfl (Step.pick (b := false) (p := (.one (.d (.bool false)))) rfl rfl (lt_ok rfl) rfl rfl) ?_
  refine TL.cons rfl (Step.move (p := (.one (.d (.bool false)))) rfl rfl (lt_ok rfl) rfl) ?_
  refine TL.goff 18 rfl rfl (lt_ok rfl) rfl rfl rfl (lt_ok rfl) ?_
  refine TL.goff 18 rfl rfl (lt_ok rfl) rfl rfl rfl (lt_ok rfl) ?_
  refine TL.goff 18 rfl rfl (lt_ok rfl) rfl rfl rfl (lt_ok rfl) ?_
  refine TL.goff 18 rfl rfl (lt_ok rfl) rfl rfl rfl (lt_ok rfl) ?_
  refine TL.goff 18 rfl rfl (lt_ok rfl) rfl rfl rfl (lt_ok rfl) ?_
  refine TL.goff 18 rfl rfl (lt_ok rfl) rfl rfl rfl (lt_ok rfl) ?_
  refine TL.cons rfl (Step.pick (b := false) (p := (.one (.d (.bool false)))) rfl rfl (lt_ok rfl) rfl rfl) ?_
  refine TL.cons rfl (Step.assign (p := (.one (.d (.bool false)))) rfl rfl (lt_ok rfl) rfl) ?_
  refine TL.nil ?_
  refine T.ret ?_
  refine ⟨[(false, [.d (.bool false)])], (.cons rfl .nil), rfl, [], (RetC.rd' ?_ .nil)⟩ <;> (first | rfl | (congr 1; symm; simp only [headFits, *, Bool.and_true, Bool.true_and, Bool.and_false, Bool.false_and, decide_true, decide_false, and_true, true_and, and_self, and_false, false_and, Bool.and_self, not_true, not_false, Bool.not_true, Bool.not_false, ge_iff_le, gt_iff_lt, if_true, if_false, Bool.false_eq_true, ite_true, ite_false, reduceIte]; done) | (congr 1; symm; simp_all [headFits]; done) | (congr 1; symm; simp_all [headFits]; omega))
theorem ok_impl_readHead (b : List Int) (s : SRS) (l : SLimits) (h0_ : U8s b) (h1_ : b.length ≤ 1048576) : BX Try.prog 92 [.rd (.agg [(.int .i64 l.f0), (.int .i64 l.f1), (.int .i64 l.f2), (.int .i64 l.f3), (.int .i64 l.f4)]), .bx] 144 [.rd (.ints .u8 b), .rd (.int .i64 s.f0), .rd (.int .i64 s.f1)] [.rd (.ints .u8 b), .rd (.int .i64 (rdHead l b s).1.f0), .rd (.int .i64 (rdHead l b s).1.f1)] [(true, [.rd (.int .i64 (rdHead l b s).2.f0), .rd (.int .i64 (rdHead l b s).2.f1), .rd (.int .i64 (rdHead l b s).2.f2), .own 5 (.ints .u8 (rdHead l b s).2.f3), .own 5 (.ints .u8 (rdHead l b s).2.f4), .rd (.int .i64 (rdHead l b s).2.f5.f0), .rd (.int .i64 (rdHead l b s).2.f5.f1), .own 5 (.ints .u8 (rdHead l b s).2.f5.f2), .own 5 (.ints .u8 (rdHead l b s).2.f5.f3), .own 24 (.bss (rdHead l b s).2.f5.f4)])] := by
 refine BX.intro Try.func92 rfl 36 rfl (le_ok rfl) (le_ok rfl) fun w Z IX pin hp => ?_
 refine T.seq ?_
 refine T.region ?_
 refine TL.cons rfl (Step.box (p := (.agg [.d (.int .i64 l.f0), .d (.int .i64 l.f1), .d (.int .i64 l.f2), .d (.int .i64 l.f3), .d (.int .i64 l.f4)])) (ps := [.d (.int .i64 l.f0), .d (.int .i64 l.f1), .d (.int .i64 l.f2), .d (.int .i64 l.f3), .d (.int .i64 l.f4)]) rfl rfl (lt_ok rfl) rfl rfl rfl rfl rfl) ?_
 refine TL.cons rfl (Step.alloc (cs := [.int .i64 0, .int .i64 0, .int .i64 0, .slice none 0 0, .slice none 0 0, .int .i64 0, .int .i64 0, .slice none 0 0, .slice none 0 0, .slice none 0 0]) (ps := [.d (.int .i64 0), .d (.int .i64 0), .d (.int .i64 0), .nil, .nil, .d (.int .i64 0), .d (.int .i64 0), .nil, .nil, .nil]) rfl rfl (lt_ok rfl) (by kernel_rfl) rfl rfl rfl rfl) ?_
 refine TL.nil ?_
 refine T.seq ?_
 refine T.region ?_
 refine TL.cons rfl (Step.move (p := (.one (.ptr 800 0))) rfl rfl (lt_ok rfl) rfl) ?_
 have nn1 := @rdNum_bd b (by assumption) s
 refine TL.cons rfl (Step.callX2 (b := 800) (xs := [.tmp 6]) (ps := [(.one (.ptr 800 0))]) (bps := [.d (.ints .u8 b), .d (.int .i64 s.f0), .d (.int .i64 s.f1)]) (ss := []) (g := .func 136) (ok_impl_reader__num b s (by assumption) (by first | omega | assumption | (simp only [List.length_append] at *; omega))) rfl rfl (lt_ok rfl) rfl (by kernel_rfl) rfl (.cons (.bx) .nil) rfl (.rd (.rd (.rd .nil))) rfl rfl (fun x hx => by have := hp x hx; omega) rfl) ?_
 refine TL.cons rfl (Step.move (p := (.one (.ptr 800 0))) rfl rfl (lt_ok rfl) rfl) ?_
 have nn2 := @rdNum_bd b (by assumption) (rdNum b s).1
 refine TL.cons rfl (Step.callX2 (b := 800) (xs := [.tmp 8]) (ps := [(.one (.ptr 800 0))]) (bps := [.d (.ints .u8 b), .d (.int .i64 (rdNum b s).1.f0), .d (.int .i64 (rdNum b s).1.f1)]) (ss := []) (g := .func 136) (ok_impl_reader__num b (rdNum b s).1 (by assumption) (by first | omega | assumption | (simp only [List.length_append] at *; omega))) rfl rfl (lt_ok rfl) rfl (by kernel_rfl) rfl (.cons (.bx) .nil) rfl (.rd (.rd (.rd .nil))) rfl rfl (fun x hx => by have := hp x hx; omega) rfl) ?_
 refine TL.cons rfl (Step.build (zs := [.int .i64 0, .int .i64 0, .int .i64 0, .slice none 0 0, .slice none 0 0, .int .i64 0, .int .i64 0, .slice none 0 0, .slice none 0 0, .slice none 0 0]) (places := [(0, 1), (1, 1), (2, 1), (3, 1), (4, 1), (5, 5)]) (pss := [(0, [.d (.int .i64 (rdNum b s).2)]), (1, [.d (.int .i64 (rdNum b (rdNum b s).1).2)])]) (ps' := [.d (.int .i64 (rdNum b s).2), .d (.int .i64 (rdNum b (rdNum b s).1).2), .d (.int .i64 0), .nil, .nil, .d (.int .i64 0), .d (.int .i64 0), .nil, .nil, .nil]) rfl rfl (lt_ok rfl) (by kernel_rfl) (.cons ⟨rfl, rfl⟩ (.cons ⟨rfl, rfl⟩ .nil)) rfl rfl rfl) ?_
 refine TL.cons rfl (Step.alloc (cs := [.int .i64 0, .int .i64 0, .int .i64 0, .slice none 0 0, .slice none 0 0, .int .i64 0, .int .i64 0, .slice none 0 0, .slice none 0 0, .slice none 0 0]) (ps := [.d (.int .i64 0), .d (.int .i64 0), .d (.int .i64 0), .nil, .nil, .d (.int .i64 0), .d (.int .i64 0), .nil, .nil, .nil]) rfl rfl (lt_ok rfl) (by kernel_rfl) rfl rfl rfl rfl) ?_
 refine TL.cons rfl (Step.store_box (n := 10) (p := (.agg [.d (.int .i64 (rdNum b s).2), .d (.int .i64 (rdNum b (rdNum b s).1).2), .d (.int .i64 0), .nil, .nil, .d (.int .i64 0), .d (.int .i64 0), .nil, .nil, .nil])) (qs := [.d (.int .i64 (rdNum b s).2), .d (.int .i64 (rdNum b (rdNum b s).1).2), .d (.int .i64 0), .nil, .nil, .d (.int .i64 0), .d (.int .i64 0), .nil, .nil, .nil]) (ps' := [.d (.int .i64 (rdNum b s).2), .d (.int .i64 (rdNum b (rdNum b s).1).2), .d (.int .i64 0), .nil, .nil, .d (.int .i64 0), .d (.int .i64 0), .nil, .nil, .nil]) rfl rfl (by kernel_rfl) rfl rfl rfl rfl rfl rfl (le_ok rfl) rfl) ?_
 refine TL.nil ?_
 refine T.seq ?_
 refine T.region ?_
 refine TL.cons rfl (Step.move (p := (.one (.ptr 800 0))) rfl rfl (lt_ok rfl) rfl) ?_
 refine TL.cons rfl (Step.fieldAddr (q := 0) (off := 1) (n := 1) (one := true) rfl rfl (lt_ok rfl) (by kernel_rfl) (Nat.succ_ne_zero _) rfl) ?_
 refine TL.cons rfl (Step.load_box (c := .d (.int .i64 (rdNum b (rdNum b s).1).2)) rfl rfl (lt_ok rfl) (by kernel_rfl) rfl rfl rfl) ?_
 refine TL.cons rfl (Step.bin rfl rfl (lt_ok rfl) rfl rfl (Bin.neq (k := .i64) (a := (rdNum b (rdNum b s).1).2) (b := 0))) ?_
 refine TL.cons rfl (Step.callX2 (b := 800) (xs := [.tmp 11, .tmp 14, .const (.int .i64 5)]) (ps := [(.one (.ptr 800 0)), (.one (.d (.bool (decide ((rdNum b (rdNum b s).1).2 ≠ 0))))), (.one (.d (.int .i64 5)))]) (bps := [.d (.ints .u8 b), .d (.int .i64 (rdNum b (rdNum b s).1).1.f0), .d (.int .i64 (rdNum b (rdNum b s).1).1.f1)]) (ss := []) (g := .func 142) (ok_impl_reader__must b (rdNum b (rdNum b s).1).1 (decide ((rdNum b (rdNum b s).1).2 ≠ 0)) 5 (by assumption) (by first | omega | assumption | (simp only [List.length_append] at *; omega))) rfl rfl (lt_ok rfl) rfl (by kernel_rfl) rfl (.cons (.bx) (.cons (.rd (.one (.d _))) (.cons (.rd (.one (.d _))) .nil))) rfl (.rd (.rd (.rd .nil))) rfl rfl (fun x hx => by have := hp x hx; omega) rfl) ?_
 refine TL.nil ?_
 refine T.seq ?_
 refine T.region ?_
 refine TL.cons rfl (Step.move (p := (.one (.ptr 800 0))) rfl rfl (lt_ok rfl) rfl) ?_
 refine TL.cons rfl (Step.fieldAddr (q := 0) (off := 0) (n := 1) (one := true) rfl rfl (lt_ok rfl) (by kernel_rfl) (Nat.succ_ne_zero _) rfl) ?_
 refine TL.cons rfl (Step.load_box (c := .d (.int .i64 l.f0)) rfl rfl (lt_ok rfl) (by kernel_rfl) rfl rfl rfl) ?_
 have nn3 := @rdNum_bd b (by assumption) (rdMust (rdNum b (rdNum b s).1).1 (decide ((rdNum b (rdNum b s).1).2 ≠ 0)) 5)
 refine TL.cons rfl (Step.callX2 (b := 800) (xs := [.tmp 16, .tmp 18, .const (.int .i64 5)]) (ps := [(.one (.ptr 800 0)), (.one (.d (.int .i64 l.f0))), (.one (.d (.int .i64 5)))]) (bps := [.d (.ints .u8 b), .d (.int .i64 (rdMust (rdNum b (rdNum b s).1).1 (decide ((rdNum b (rdNum b s).1).2 ≠ 0)) 5).f0), .d (.int .i64 (rdMust (rdNum b (rdNum b s).1).1 (decide ((rdNum b (rdNum b s).1).2 ≠ 0)) 5).f1)]) (ss := []) (g := .func 143) (ok_impl_reader__below b (rdMust (rdNum b (rdNum b s).1).1 (decide ((rdNum b (rdNum b s).1).2 ≠ 0)) 5) l.f0 5 (by assumption) (by first | omega | assumption | (simp only [List.length_append] at *; omega))) rfl rfl (lt_ok rfl) rfl (by kernel_rfl) rfl (.cons (.bx) (.cons (.rd (.one (.d _))) (.cons (.rd (.one (.d _))) .nil))) rfl (.rd (.rd (.rd .nil))) rfl rfl (fun x hx => by have := hp x hx; omega) rfl) ?_
 refine TL.cons rfl (Step.fieldAddr (q := 0) (off := 2) (n := 1) (one := true) rfl rfl (lt_ok rfl) (by kernel_rfl) (Nat.succ_ne_zero _) rfl) ?_
 refine TL.cons rfl (Step.store_box (n := 1) (p := (.one (.d (.int .i64 (rdBelow b (rdMust (rdNum b (rdNum b s).1).1 (decide ((rdNum b (rdNum b s).1).2 ≠ 0)) 5) l.f0 5).2)))) (qs := [.d (.int .i64 (rdBelow b (rdMust (rdNum b (rdNum b s).1).1 (decide ((rdNum b (rdNum b s).1).2 ≠ 0)) 5) l.f0 5).2)]) (ps' := [.d (.int .i64 (rdNum b s).2), .d (.int .i64 (rdNum b (rdNum b s).1).2), .d (.int .i64 (rdBelow b (rdMust (rdNum b (rdNum b s).1).1 (decide ((rdNum b (rdNum b s).1).2 ≠ 0)) 5) l.f0 5).2), .nil, .nil, .d (.int .i64 0), .d (.int .i64 0), .nil, .nil, .nil]) rfl rfl (by kernel_rfl) rfl rfl rfl rfl rfl rfl (le_ok rfl) rfl) ?_
 refine TL.nil ?_
 refine T.seq ?_
 refine T.region ?_
 refine TL.cons rfl (Step.move (p := (.one (.ptr 800 0))) rfl rfl (lt_ok rfl) rfl) ?_
 have nn4 := rdRaw_len b (rdBelow b (rdMust (rdNum b (rdNum b s).1).1 (decide ((rdNum b (rdNum b s).1).2 ≠ 0)) 5) l.f0 5).1 32
 refine TL.cons rfl (Step.callX2 (b := 800) (xs := [.tmp 21]) (ps := [(.one (.ptr 800 0))]) (bps := [.d (.ints .u8 b), .d (.int .i64 (rdBelow b (rdMust (rdNum b (rdNum b s).1).1 (decide ((rdNum b (rdNum b s).1).2 ≠ 0)) 5) l.f0 5).1.f0), .d (.int .i64 (rdBelow b (rdMust (rdNum b (rdNum b s).1).1 (decide ((rdNum b (rdNum b s).1).2 ≠ 0)) 5) l.f0 5).1.f1)]) (ss := []) (g := .func 137) (ok_impl_reader__hash b (rdBelow b (rdMust (rdNum b (rdNum b s).1).1 (decide ((rdNum b (rdNum b s).1).2 ≠ 0)) 5) l.f0 5).1 (by assumption) (by first | omega | assumption | (simp only [List.length_append] at *; omega))) rfl rfl (lt_ok rfl) rfl (by kernel_rfl) rfl (.cons (.bx) .nil) rfl (.rd (.rd (.rd .nil))) rfl rfl (fun x hx => by have := hp x hx; omega) rfl) ?_
 refine TL.cons rfl (Step.move (p := (.one (.ptr 800 0))) rfl rfl (lt_ok rfl) rfl) ?_
 have nn5 := rdRaw_len b (rdRaw b (rdBelow b (rdMust (rdNum b (rdNum b s).1).1 (decide ((rdNum b (rdNum b s).1).2 ≠ 0)) 5) l.f0 5).1 32).1 32
 refine TL.cons rfl (Step.callX2 (b := 800) (xs := [.tmp 23]) (ps := [(.one (.ptr 800 0))]) (bps := [.d (.ints .u8 b), .d (.int .i64 (rdRaw b (rdBelow b (rdMust (rdNum b (rdNum b s).1).1 (decide ((rdNum b (rdNum b s).1).2 ≠ 0)) 5) l.f0 5).1 32).1.f0), .d (.int .i64 (rdRaw b (rdBelow b (rdMust (rdNum b (rdNum b s).1).1 (decide ((rdNum b (rdNum b s).1).2 ≠ 0)) 5) l.f0 5).1 32).1.f1)]) (ss := []) (g := .func 137) (ok_impl_reader__hash b (rdRaw b (rdBelow b (rdMust (rdNum b (rdNum b s).1).1 (decide ((rdNum b (rdNum b s).1).2 ≠ 0)) 5) l.f0 5).1 32).1 (by assumption) (by first | omega | assumption | (simp only [List.length_append] at *; omega))) rfl rfl (lt_ok rfl) rfl (by kernel_rfl) rfl (.cons (.bx) .nil) rfl (.rd (.rd (.rd .nil))) rfl rfl (fun x hx => by have := hp x hx; omega) rfl) ?_
 refine TL.cons rfl (Step.fieldAddr (q := 0) (off := 3) (n := 1) (one := true) rfl rfl (lt_ok rfl) (by kernel_rfl) (Nat.succ_ne_zero _) rfl) ?_
 refine TL.cons rfl (Step.store_box (n := 1) (p := (.one (.row 4022 []))) (qs := [.row 4022 []]) (ps' := [.d (.int .i64 (rdNum b s).2), .d (.int .i64 (rdNum b (rdNum b s).1).2), .d (.int .i64 (rdBelow b (rdMust (rdNum b (rdNum b s).1).1 (decide ((rdNum b (rdNum b s).1).2 ≠ 0)) 5) l.f0 5).2), .row 4022 [], .nil, .d (.int .i64 0), .d (.int .i64 0), .nil, .nil, .nil]) rfl rfl (by kernel_rfl) rfl rfl rfl rfl rfl rfl (le_ok rfl) rfl) ?_
 refine TL.cons rfl (Step.fieldAddr (q := 0) (off := 4) (n := 1) (one := true) rfl rfl (lt_ok rfl) (by kernel_rfl) (Nat.succ_ne_zero _) rfl) ?_
 refine TL.cons rfl (Step.store_box (n := 1) (p := (.one (.row 4024 []))) (qs := [.row 4024 []]) (ps' := [.d (.int .i64 (rdNum b s).2), .d (.int .i64 (rdNum b (rdNum b s).1).2), .d (.int .i64 (rdBelow b (rdMust (rdNum b (rdNum b s).1).1 (decide ((rdNum b (rdNum b s).1).2 ≠ 0)) 5) l.f0 5).2), .row 4022 [], .row 4024 [], .d (.int .i64 0), .d (.int .i64 0), .nil, .nil, .nil]) rfl rfl (by kernel_rfl) rfl rfl rfl rfl rfl rfl (le_ok rfl) rfl) ?_
 refine TL.nil ?_
 refine T.seq ?_
 refine T.region ?_
 refine TL.cons rfl (Step.load_box_agg (n := 5) (qs := [.d (.int .i64 l.f0), .d (.int .i64 l.f1), .d (.int .i64 l.f2), .d (.int .i64 l.f3), .d (.int .i64 l.f4)]) rfl rfl (lt_ok rfl) (by kernel_rfl) rfl rfl rfl rfl) ?_
 refine TL.cons rfl (Step.move (p := (.one (.ptr 800 0))) rfl rfl (lt_ok rfl) rfl) ?_
 have nn6 := @rdQc_sm l b (rdRaw b (rdRaw b (rdBelow b (rdMust (rdNum b (rdNum b s).1).1 (decide ((rdNum b (rdNum b s).1).2 ≠ 0)) 5) l.f0 5).1 32).1 32).1 (by first | assumption | omega)
 have nn7 := @rdQc_ok l b (rdRaw b (rdRaw b (rdBelow b (rdMust (rdNum b (rdNum b s).1).1 (decide ((rdNum b (rdNum b s).1).2 ≠ 0)) 5) l.f0 5).1 32).1 32).1 (by assumption)
 refine TL.cons rfl (Step.callX2 (b := 800) (xs := [.tmp 27, .tmp 28]) (ps := [(.agg [.d (.int .i64 l.f0), .d (.int .i64 l.f1), .d (.int .i64 l.f2), .d (.int .i64 l.f3), .d (.int .i64 l.f4)]), (.one (.ptr 800 0))]) (bps := [.d (.ints .u8 b), .d (.int .i64 (rdRaw b (rdRaw b (rdBelow b (rdMust (rdNum b (rdNum b s).1).1 (decide ((rdNum b (rdNum b s).1).2 ≠ 0)) 5) l.f0 5).1 32).1 32).1.f0), .d (.int .i64 (rdRaw b (rdRaw b (rdBelow b (rdMust (rdNum b (rdNum b s).1).1 (decide ((rdNum b (rdNum b s).1).2 ≠ 0)) 5) l.f0 5).1 32).1 32).1.f1)]) (ss := []) (g := .func 89) (ok_impl_readQc b (rdRaw b (rdRaw b (rdBelow b (rdMust (rdNum b (rdNum b s).1).1 (decide ((rdNum b (rdNum b s).1).2 ≠ 0)) 5) l.f0 5).1 32).1 32).1 l (by assumption) (by first | omega | assumption | (simp only [List.length_append] at *; omega))) rfl rfl (lt_ok rfl) rfl (by kernel_rfl) rfl (.cons (.rd (.agg (.cons (.d _) (.cons (.d _) (.cons (.d _) (.cons (.d _) (.cons (.d _) .nil))))))) (.cons (.bx) .nil)) rfl (.rd (.rd (.rd .nil))) rfl rfl (fun x hx => by have := hp x hx; omega) rfl) ?_
 refine TL.cons rfl (Step.fieldAddr (q := 0) (off := 5) (n := 5) (one := false) rfl rfl (lt_ok rfl) (by kernel_rfl) (Nat.succ_ne_zero _) rfl) ?_
 refine TL.cons rfl (Step.store_box (n := 5) (p := (.agg [.d (.int .i64 (rdQc l b (rdRaw b (rdRaw b (rdBelow b (rdMust (rdNum b (rdNum b s).1).1 (decide ((rdNum b (rdNum b s).1).2 ≠ 0)) 5) l.f0 5).1 32).1 32).1).2.f0), .d (.int .i64 (rdQc l b (rdRaw b (rdRaw b (rdBelow b (rdMust (rdNum b (rdNum b s).1).1 (decide ((rdNum b (rdNum b s).1).2 ≠ 0)) 5) l.f0 5).1 32).1 32).1).2.f1), .row 6029 [], .row 7029 [], .row 8029 []])) (qs := [.d (.int .i64 (rdQc l b (rdRaw b (rdRaw b (rdBelow b (rdMust (rdNum b (rdNum b s).1).1 (decide ((rdNum b (rdNum b s).1).2 ≠ 0)) 5) l.f0 5).1 32).1 32).1).2.f0), .d (.int .i64 (rdQc l b (rdRaw b (rdRaw b (rdBelow b (rdMust (rdNum b (rdNum b s).1).1 (decide ((rdNum b (rdNum b s).1).2 ≠ 0)) 5) l.f0 5).1 32).1 32).1).2.f1), .row 6029 [], .row 7029 [], .row 8029 []]) (ps' := [.d (.int .i64 (rdNum b s).2), .d (.int .i64 (rdNum b (rdNum b s).1).2), .d (.int .i64 (rdBelow b (rdMust (rdNum b (rdNum b s).1).1 (decide ((rdNum b (rdNum b s).1).2 ≠ 0)) 5) l.f0 5).2), .row 4022 [], .row 4024 [], .d (.int .i64 (rdQc l b (rdRaw b (rdRaw b (rdBelow b (rdMust (rdNum b (rdNum b s).1).1 (decide ((rdNum b (rdNum b s).1).2 ≠ 0)) 5) l.f0 5).1 32).1 32).1).2.f0), .d (.int .i64 (rdQc l b (rdRaw b (rdRaw b (rdBelow b (rdMust (rdNum b (rdNum b s).1).1 (decide ((rdNum b (rdNum b s).1).2 ≠ 0)) 5) l.f0 5).1 32).1 32).1).2.f1), .row 6029 [], .row 7029 [], .row 8029 []]) rfl rfl (by kernel_rfl) rfl rfl rfl rfl rfl rfl (le_ok rfl) rfl) ?_
 refine TL.nil ?_
 refine T.seq ?_
 refine T.region ?_
 refine TL.cons rfl (Step.move (p := (.one (.ptr 800 0))) rfl rfl (lt_ok rfl) rfl) ?_
 refine TL.cons rfl (Step.load_box_agg (n := 10) (qs := [.d (.int .i64 (rdNum b s).2), .d (.int .i64 (rdNum b (rdNum b s).1).2), .d (.int .i64 (rdBelow b (rdMust (rdNum b (rdNum b s).1).1 (decide ((rdNum b (rdNum b s).1).2 ≠ 0)) 5) l.f0 5).2), .row 4022 [], .row 4024 [], .d (.int .i64 (rdQc l b (rdRaw b (rdRaw b (rdBelow b (rdMust (rdNum b (rdNum b s).1).1 (decide ((rdNum b (rdNum b s).1).2 ≠ 0)) 5) l.f0 5).1 32).1 32).1).2.f0), .d (.int .i64 (rdQc l b (rdRaw b (rdRaw b (rdBelow b (rdMust (rdNum b (rdNum b s).1).1 (decide ((rdNum b (rdNum b s).1).2 ≠ 0)) 5) l.f0 5).1 32).1 32).1).2.f1), .row 6029 [], .row 7029 [], .row 8029 []]) rfl rfl (lt_ok rfl) (by kernel_rfl) rfl rfl rfl rfl) ?_
 refine TL.cons rfl (Step.call (f := 144) (xs := [.tmp 32]) (ps := [(.agg [.d (.int .i64 (rdNum b s).2), .d (.int .i64 (rdNum b (rdNum b s).1).2), .d (.int .i64 (rdBelow b (rdMust (rdNum b (rdNum b s).1).1 (decide ((rdNum b (rdNum b s).1).2 ≠ 0)) 5) l.f0 5).2), .row 4022 [], .row 4024 [], .d (.int .i64 (rdQc l b (rdRaw b (rdRaw b (rdBelow b (rdMust (rdNum b (rdNum b s).1).1 (decide ((rdNum b (rdNum b s).1).2 ≠ 0)) 5) l.f0 5).1 32).1 32).1).2.f0), .d (.int .i64 (rdQc l b (rdRaw b (rdRaw b (rdBelow b (rdMust (rdNum b (rdNum b s).1).1 (decide ((rdNum b (rdNum b s).1).2 ≠ 0)) 5) l.f0 5).1 32).1 32).1).2.f1), .row 6029 [], .row 7029 [], .row 8029 []])]) false (g := .func 144) rfl rfl (lt_ok rfl) rfl (by kernel_rfl) rfl (.cons (.agg (.cons (.d _) (.cons (.d _) (.cons (.d _) (.cons (.row rfl rfl rfl rfl) (.cons (.row rfl rfl rfl rfl) (.cons (.d _) (.cons (.d _) (.cons (.row rfl rfl rfl rfl) (.cons (.row rfl rfl rfl rfl) (.cons (.row rfl rfl rfl rfl) .nil))))))))))) .nil) (ok_impl_Head__matches (⟨(rdNum b s).2, (rdNum b (rdNum b s).1).2, (rdBelow b (rdMust (rdNum b (rdNum b s).1).1 (decide ((rdNum b (rdNum b s).1).2 ≠ 0)) 5) l.f0 5).2, (rdRaw b (rdBelow b (rdMust (rdNum b (rdNum b s).1).1 (decide ((rdNum b (rdNum b s).1).2 ≠ 0)) 5) l.f0 5).1 32).2, (rdRaw b (rdRaw b (rdBelow b (rdMust (rdNum b (rdNum b s).1).1 (decide ((rdNum b (rdNum b s).1).2 ≠ 0)) 5) l.f0 5).1 32).1 32).2, (rdQc l b (rdRaw b (rdRaw b (rdBelow b (rdMust (rdNum b (rdNum b s).1).1 (decide ((rdNum b (rdNum b s).1).2 ≠ 0)) 5) l.f0 5).1 32).1 32).1).2⟩ : SHead) (by first | assumption | exact rdHead_ok (l := l) (s := s) h0_)) (.inr rfl) rfl (fun x hx => by have := hp x hx; omega) rfl) ?_
 refine TL.cons rfl (Step.callX2 (b := 800) (xs := [.tmp 31, .tmp 33, .const (.int .i64 6)]) (ps := [(.one (.ptr 800 0)), (.one (.d (.bool (headFits (⟨(rdNum b s).2, (rdNum b (rdNum b s).1).2, (rdBelow b (rdMust (rdNum b (rdNum b s).1).1 (decide ((rdNum b (rdNum b s).1).2 ≠ 0)) 5) l.f0 5).2, (rdRaw b (rdBelow b (rdMust (rdNum b (rdNum b s).1).1 (decide ((rdNum b (rdNum b s).1).2 ≠ 0)) 5) l.f0 5).1 32).2, (rdRaw b (rdRaw b (rdBelow b (rdMust (rdNum b (rdNum b s).1).1 (decide ((rdNum b (rdNum b s).1).2 ≠ 0)) 5) l.f0 5).1 32).1 32).2, (rdQc l b (rdRaw b (rdRaw b (rdBelow b (rdMust (rdNum b (rdNum b s).1).1 (decide ((rdNum b (rdNum b s).1).2 ≠ 0)) 5) l.f0 5).1 32).1 32).1).2⟩ : SHead))))), (.one (.d (.int .i64 6)))]) (bps := [.d (.ints .u8 b), .d (.int .i64 (rdQc l b (rdRaw b (rdRaw b (rdBelow b (rdMust (rdNum b (rdNum b s).1).1 (decide ((rdNum b (rdNum b s).1).2 ≠ 0)) 5) l.f0 5).1 32).1 32).1).1.f0), .d (.int .i64 (rdQc l b (rdRaw b (rdRaw b (rdBelow b (rdMust (rdNum b (rdNum b s).1).1 (decide ((rdNum b (rdNum b s).1).2 ≠ 0)) 5) l.f0 5).1 32).1 32).1).1.f1)]) (ss := []) (g := .func 142) (ok_impl_reader__must b (rdQc l b (rdRaw b (rdRaw b (rdBelow b (rdMust (rdNum b (rdNum b s).1).1 (decide ((rdNum b (rdNum b s).1).2 ≠ 0)) 5) l.f0 5).1 32).1 32).1).1 (headFits (⟨(rdNum b s).2, (rdNum b (rdNum b s).1).2, (rdBelow b (rdMust (rdNum b (rdNum b s).1).1 (decide ((rdNum b (rdNum b s).1).2 ≠ 0)) 5) l.f0 5).2, (rdRaw b (rdBelow b (rdMust (rdNum b (rdNum b s).1).1 (decide ((rdNum b (rdNum b s).1).2 ≠ 0)) 5) l.f0 5).1 32).2, (rdRaw b (rdRaw b (rdBelow b (rdMust (rdNum b (rdNum b s).1).1 (decide ((rdNum b (rdNum b s).1).2 ≠ 0)) 5) l.f0 5).1 32).1 32).2, (rdQc l b (rdRaw b (rdRaw b (rdBelow b (rdMust (rdNum b (rdNum b s).1).1 (decide ((rdNum b (rdNum b s).1).2 ≠ 0)) 5) l.f0 5).1 32).1 32).1).2⟩ : SHead)) 6 (by assumption) (by first | omega | assumption | (simp only [List.length_append] at *; omega))) rfl rfl (lt_ok rfl) rfl (by kernel_rfl) rfl (.cons (.bx) (.cons (.rd (.one (.d _))) (.cons (.rd (.one (.d _))) .nil))) rfl (.rd (.rd (.rd .nil))) rfl rfl (fun x hx => by have := hp x hx; omega) rfl) ?_
 refine TL.nil ?_
 refine T.weaken (E' := { tm := [(4, (.one (.ptr 4 0))), (5, (.one (.ptr 5 0)))], rows := [(4022, (5, (.ints .u8 (rdRaw b (rdBelow b (rdMust (rdNum b (rdNum b s).1).1 (decide ((rdNum b (rdNum b s).1).2 ≠ 0)) 5) l.f0 5).1 32).2))), (4024, (5, (.ints .u8 (rdRaw b (rdRaw b (rdBelow b (rdMust (rdNum b (rdNum b s).1).1 (decide ((rdNum b (rdNum b s).1).2 ≠ 0)) 5) l.f0 5).1 32).1 32).2))), (6029, (5, (.ints .u8 (rdQc l b (rdRaw b (rdRaw b (rdBelow b (rdMust (rdNum b (rdNum b s).1).1 (decide ((rdNum b (rdNum b s).1).2 ≠ 0)) 5) l.f0 5).1 32).1 32).1).2.f2))), (7029, (5, (.ints .u8 (rdQc l b (rdRaw b (rdRaw b (rdBelow b (rdMust (rdNum b (rdNum b s).1).1 (decide ((rdNum b (rdNum b s).1).2 ≠ 0)) 5) l.f0 5).1 32).1 32).1).2.f3))), (8029, (24, (.bss (rdQc l b (rdRaw b (rdRaw b (rdBelow b (rdMust (rdNum b (rdNum b s).1).1 (decide ((rdNum b (rdNum b s).1).2 ≠ 0)) 5) l.f0 5).1 32).1 32).1).2.f4)))], boxes := [(800, (144, [.d (.ints .u8 b), .d (.int .i64 (rdMust (rdQc l b (rdRaw b (rdRaw b (rdBelow b (rdMust (rdNum b (rdNum b s).1).1 (decide ((rdNum b (rdNum b s).1).2 ≠ 0)) 5) l.f0 5).1 32).1 32).1).1 (headFits (⟨(rdNum b s).2, (rdNum b (rdNum b s).1).2, (rdBelow b (rdMust (rdNum b (rdNum b s).1).1 (decide ((rdNum b (rdNum b s).1).2 ≠ 0)) 5) l.f0 5).2, (rdRaw b (rdBelow b (rdMust (rdNum b (rdNum b s).1).1 (decide ((rdNum b (rdNum b s).1).2 ≠ 0)) 5) l.f0 5).1 32).2, (rdRaw b (rdRaw b (rdBelow b (rdMust (rdNum b (rdNum b s).1).1 (decide ((rdNum b (rdNum b s).1).2 ≠ 0)) 5) l.f0 5).1 32).1 32).2, (rdQc l b (rdRaw b (rdRaw b (rdBelow b (rdMust (rdNum b (rdNum b s).1).1 (decide ((rdNum b (rdNum b s).1).2 ≠ 0)) 5) l.f0 5).1 32).1 32).1).2⟩ : SHead)) 6).f0), .d (.int .i64 (rdMust (rdQc l b (rdRaw b (rdRaw b (rdBelow b (rdMust (rdNum b (rdNum b s).1).1 (decide ((rdNum b (rdNum b s).1).2 ≠ 0)) 5) l.f0 5).1 32).1 32).1).1 (headFits (⟨(rdNum b s).2, (rdNum b (rdNum b s).1).2, (rdBelow b (rdMust (rdNum b (rdNum b s).1).1 (decide ((rdNum b (rdNum b s).1).2 ≠ 0)) 5) l.f0 5).2, (rdRaw b (rdBelow b (rdMust (rdNum b (rdNum b s).1).1 (decide ((rdNum b (rdNum b s).1).2 ≠ 0)) 5) l.f0 5).1 32).2, (rdRaw b (rdRaw b (rdBelow b (rdMust (rdNum b (rdNum b s).1).1 (decide ((rdNum b (rdNum b s).1).2 ≠ 0)) 5) l.f0 5).1 32).1 32).2, (rdQc l b (rdRaw b (rdRaw b (rdBelow b (rdMust (rdNum b (rdNum b s).1).1 (decide ((rdNum b (rdNum b s).1).2 ≠ 0)) 5) l.f0 5).1 32).1 32).1).2⟩ : SHead)) 6).f1)])), (4, (54, [.d (.int .i64 0), .d (.int .i64 0), .d (.int .i64 0), .nil, .nil, .d (.int .i64 0), .d (.int .i64 0), .nil, .nil, .nil])), (5, (54, [.d (.int .i64 (rdNum b s).2), .d (.int .i64 (rdNum b (rdNum b s).1).2), .d (.int .i64 (rdBelow b (rdMust (rdNum b (rdNum b s).1).1 (decide ((rdNum b (rdNum b s).1).2 ≠ 0)) 5) l.f0 5).2), .row 4022 [], .row 4024 [], .d (.int .i64 (rdQc l b (rdRaw b (rdRaw b (rdBelow b (rdMust (rdNum b (rdNum b s).1).1 (decide ((rdNum b (rdNum b s).1).2 ≠ 0)) 5) l.f0 5).1 32).1 32).1).2.f0), .d (.int .i64 (rdQc l b (rdRaw b (rdRaw b (rdBelow b (rdMust (rdNum b (rdNum b s).1).1 (decide ((rdNum b (rdNum b s).1).2 ≠ 0)) 5) l.f0 5).1 32).1 32).1).2.f1), .row 6029 [], .row 7029 [], .row 8029 []]))] }) (Env.le_mk ⟨by kernel_rfl, by kernel_rfl, trivial⟩ ⟨by kernel_rfl, by kernel_rfl, by kernel_rfl, by kernel_rfl, by kernel_rfl, trivial⟩ ⟨by kernel_rfl, by kernel_rfl, by kernel_rfl, trivial⟩) ?_
 refine T.seq ?_
 refine T.region ?_
 refine TL.cons rfl (Step.load_box_agg (n := 10) (qs := [.d (.int .i64 (rdNum b s).2), .d (.int .i64 (rdNum b (rdNum b s).1).2), .d (.int .i64 (rdBelow b (rdMust (rdNum b (rdNum b s).1).1 (decide ((rdNum b (rdNum b s).1).2 ≠ 0)) 5) l.f0 5).2), .row 4022 [], .row 4024 [], .d (.int .i64 (rdQc l b (rdRaw b (rdRaw b (rdBelow b (rdMust (rdNum b (rdNum b s).1).1 (decide ((rdNum b (rdNum b s).1).2 ≠ 0)) 5) l.f0 5).1 32).1 32).1).2.f0), .d (.int .i64 (rdQc l b (rdRaw b (rdRaw b (rdBelow b (rdMust (rdNum b (rdNum b s).1).1 (decide ((rdNum b (rdNum b s).1).2 ≠ 0)) 5) l.f0 5).1 32).1 32).1).2.f1), .row 6029 [], .row 7029 [], .row 8029 []]) rfl rfl (lt_ok rfl) (by kernel_rfl) rfl rfl rfl rfl) ?_
 refine TL.cons rfl (Step.store_box (n := 10) (p := (.agg [.d (.int .i64 (rdNum b s).2), .d (.int .i64 (rdNum b (rdNum b s).1).2), .d (.int .i64 (rdBelow b (rdMust (rdNum b (rdNum b s).1).1 (decide ((rdNum b (rdNum b s).1).2 ≠ 0)) 5) l.f0 5).2), .row 4022 [], .row 4024 [], .d (.int .i64 (rdQc l b (rdRaw b (rdRaw b (rdBelow b (rdMust (rdNum b (rdNum b s).1).1 (decide ((rdNum b (rdNum b s).1).2 ≠ 0)) 5) l.f0 5).1 32).1 32).1).2.f0), .d (.int .i64 (rdQc l b (rdRaw b (rdRaw b (rdBelow b (rdMust (rdNum b (rdNum b s).1).1 (decide ((rdNum b (rdNum b s).1).2 ≠ 0)) 5) l.f0 5).1 32).1 32).1).2.f1), .row 6029 [], .row 7029 [], .row 8029 []])) (qs := [.d (.int .i64 (rdNum b s).2), .d (.int .i64 (rdNum b (rdNum b s).1).2), .d (.int .i64 (rdBelow b (rdMust (rdNum b (rdNum b s).1).1 (decide ((rdNum b (rdNum b s).1).2 ≠ 0)) 5) l.f0 5).2), .row 4022 [], .row 4024 [], .d (.int .i64 (rdQc l b (rdRaw b (rdRaw b (rdBelow b (rdMust (rdNum b (rdNum b s).1).1 (decide ((rdNum b (rdNum b s).1).2 ≠ 0)) 5) l.f0 5).1 32).1 32).1).2.f0), .d (.int .i64 (rdQc l b (rdRaw b (rdRaw b (rdBelow b (rdMust (rdNum b (rdNum b s).1).1 (decide ((rdNum b (rdNum b s).1).2 ≠ 0)) 5) l.f0 5).1 32).1 32).1).2.f1), .row 6029 [], .row 7029 [], .row 8029 []]) (ps' := [.d (.int .i64 (rdNum b s).2), .d (.int .i64 (rdNum b (rdNum b s).1).2), .d (.int .i64 (rdBelow b (rdMust (rdNum b (rdNum b s).1).1 (decide ((rdNum b (rdNum b s).1).2 ≠ 0)) 5) l.f0 5).2), .row 4022 [], .row 4024 [], .d (.int .i64 (rdQc l b (rdRaw b (rdRaw b (rdBelow b (rdMust (rdNum b (rdNum b s).1).1 (decide ((rdNum b (rdNum b s).1).2 ≠ 0)) 5) l.f0 5).1 32).1 32).1).2.f0), .d (.int .i64 (rdQc l b (rdRaw b (rdRaw b (rdBelow b (rdMust (rdNum b (rdNum b s).1).1 (decide ((rdNum b (rdNum b s).1).2 ≠ 0)) 5) l.f0 5).1 32).1 32).1).2.f1), .row 6029 [], .row 7029 [], .row 8029 []]) rfl rfl (by kernel_rfl) rfl rfl rfl rfl rfl rfl (le_ok rfl) rfl) ?_
 refine TL.nil ?_
 refine T.ret ?_
 refine ⟨[.d (.ints .u8 b), .d (.int .i64 (rdMust (rdQc l b (rdRaw b (rdRaw b (rdBelow b (rdMust (rdNum b (rdNum b s).1).1 (decide ((rdNum b (rdNum b s).1).2 ≠ 0)) 5) l.f0 5).1 32).1 32).1).1 (headFits (⟨(rdNum b s).2, (rdNum b (rdNum b s).1).2, (rdBelow b (rdMust (rdNum b (rdNum b s).1).1 (decide ((rdNum b (rdNum b s).1).2 ≠ 0)) 5) l.f0 5).2, (rdRaw b (rdBelow b (rdMust (rdNum b (rdNum b s).1).1 (decide ((rdNum b (rdNum b s).1).2 ≠ 0)) 5) l.f0 5).1 32).2, (rdRaw b (rdRaw b (rdBelow b (rdMust (rdNum b (rdNum b s).1).1 (decide ((rdNum b (rdNum b s).1).2 ≠ 0)) 5) l.f0 5).1 32).1 32).2, (rdQc l b (rdRaw b (rdRaw b (rdBelow b (rdMust (rdNum b (rdNum b s).1).1 (decide ((rdNum b (rdNum b s).1).2 ≠ 0)) 5) l.f0 5).1 32).1 32).1).2⟩ : SHead)) 6).f0), .d (.int .i64 (rdMust (rdQc l b (rdRaw b (rdRaw b (rdBelow b (rdMust (rdNum b (rdNum b s).1).1 (decide ((rdNum b (rdNum b s).1).2 ≠ 0)) 5) l.f0 5).1 32).1 32).1).1 (headFits (⟨(rdNum b s).2, (rdNum b (rdNum b s).1).2, (rdBelow b (rdMust (rdNum b (rdNum b s).1).1 (decide ((rdNum b (rdNum b s).1).2 ≠ 0)) 5) l.f0 5).2, (rdRaw b (rdBelow b (rdMust (rdNum b (rdNum b s).1).1 (decide ((rdNum b (rdNum b s).1).2 ≠ 0)) 5) l.f0 5).1 32).2, (rdRaw b (rdRaw b (rdBelow b (rdMust (rdNum b (rdNum b s).1).1 (decide ((rdNum b (rdNum b s).1).2 ≠ 0)) 5) l.f0 5).1 32).1 32).2, (rdQc l b (rdRaw b (rdRaw b (rdBelow b (rdMust (rdNum b (rdNum b s).1).1 (decide ((rdNum b (rdNum b s).1).2 ≠ 0)) 5) l.f0 5).1 32).1 32).1).2⟩ : SHead)) 6).f1)], [(true, [.d (.int .i64 (rdNum b s).2), .d (.int .i64 (rdNum b (rdNum b s).1).2), .d (.int .i64 (rdBelow b (rdMust (rdNum b (rdNum b s).1).1 (decide ((rdNum b (rdNum b s).1).2 ≠ 0)) 5) l.f0 5).2), .row 4022 [], .row 4024 [], .d (.int .i64 (rdQc l b (rdRaw b (rdRaw b (rdBelow b (rdMust (rdNum b (rdNum b s).1).1 (decide ((rdNum b (rdNum b s).1).2 ≠ 0)) 5) l.f0 5).1 32).1 32).1).2.f0), .d (.int .i64 (rdQc l b (rdRaw b (rdRaw b (rdBelow b (rdMust (rdNum b (rdNum b s).1).1 (decide ((rdNum b (rdNum b s).1).2 ≠ 0)) 5) l.f0 5).1 32).1 32).1).2.f1), .row 6029 [], .row 7029 [], .row 8029 []])], rfl, rfl, (.cons rfl .nil), rfl, [4022, 4024, 6029, 7029, 8029], (RetC.rd' rfl (RetC.rd' ?_ (RetC.rd' ?_ (RetC.rd' ?_ (RetC.rd' ?_ (RetC.rd' ?_ (RetC.own' rfl ?_ rfl (RetC.own' rfl ?_ rfl (RetC.rd' ?_ (RetC.rd' ?_ (RetC.own' rfl ?_ rfl (RetC.own' rfl ?_ rfl (RetC.own' rfl ?_ rfl .nil)))))))))))))⟩ <;> (rfl)
theorem ok_impl_Proof__closes (p : SProof) (h0_ : 1 ≤ p.f0.length) (h1_ : p.f0.length ≤ 1048576) : RO Try.prog 128 [.agg p.cells] [(false, [.rd (.bool (closes p))])] := by
 refine RO.intro Try.func128 rfl 26 rfl (le_ok rfl) fun w Z => ?_
 refine T.seq ?_
 refine T.region ?_
 refine TL.cons rfl (Step.box (p := (.agg [.d (.sl 10 (p.f0.map SHead.cells)), .d (.int .i64 p.f1.f0), .d (.int .i64 p.f1.f1), .d (.ints .u8 p.f1.f2), .d (.ints .u8 p.f1.f3), .d (.bss p.f1.f4)])) (ps := [.d (.sl 10 (p.f0.map SHead.cells)), .d (.int .i64 p.f1.f0), .d (.int .i64 p.f1.f1), .d (.ints .u8 p.f1.f2), .d (.ints .u8 p.f1.f3), .d (.bss p.f1.f4)]) rfl rfl (lt_ok rfl) rfl rfl rfl rfl rfl) ?_
 refine TL.cons rfl (Step.assign (p := (.one (.d (.bool false)))) rfl rfl (lt_ok rfl) rfl) ?_
 refine TL.nil ?_
 refine T.seq ?_
 refine T.region ?_
 refine TL.cons rfl (Step.fieldAddr (q := 0) (off := 0) (n := 1) (one := true) rfl rfl (lt_ok rfl) (by kernel_rfl) (Nat.succ_ne_zero _) rfl) ?_
 refine TL.cons rfl (Step.load_box (c := .d (.sl 10 (p.f0.map SHead.cells))) rfl rfl (lt_ok rfl) (by kernel_rfl) rfl rfl rfl) ?_
 refine TL.cons rfl (Step.fieldAddr (q := 0) (off := 0) (n := 1) (one := true) rfl rfl (lt_ok rfl) (by kernel_rfl) (Nat.succ_ne_zero _) rfl) ?_
 refine TL.cons rfl (Step.load_box (c := .d (.sl 10 (p.f0.map SHead.cells))) rfl rfl (lt_ok rfl) (by kernel_rfl) rfl rfl rfl) ?_
 refine TL.cons rfl (Step.len' (e := 54) (z := 10) (d := (.sl 10 (p.f0.map SHead.cells))) (n := p.f0.length) rfl rfl (lt_ok rfl) (by kernel_rfl) rfl rfl (by simp [D.size])) ?_
 refine TL.cons rfl (Step.bin (r := .int .i64 ((p.f0.length : Int) - 1)) rfl rfl (lt_ok rfl) rfl rfl (Bin.sub (a := (p.f0.length : Int)) (b := 1) (by first | exact wrap_ok (by first | omega | (simp; omega)) (by first | omega | (simp; omega)) | rfl))) ?_
 refine TL.cons rfl (Step.index (e := 54) (z := 10) (i := ((p.f0.length : Int) - 1)) rfl rfl (lt_ok rfl) (by kernel_rfl) rfl rfl rfl (lt_ok rfl) rfl (by first | omega | (simp; omega)) (by simp only [D.size]; first | omega | (simp; omega))) ?_
 refine TL.cons rfl (Step.load_agg (n := 10) (cs := [.d (.int .i64 (p.f0.getD ((p.f0.length : Int) - 1).toNat default).f0), .d (.int .i64 (p.f0.getD ((p.f0.length : Int) - 1).toNat default).f1), .d (.int .i64 (p.f0.getD ((p.f0.length : Int) - 1).toNat default).f2), .d (.ints .u8 (p.f0.getD ((p.f0.length : Int) - 1).toNat default).f3), .d (.ints .u8 (p.f0.getD ((p.f0.length : Int) - 1).toNat default).f4), .d (.int .i64 (p.f0.getD ((p.f0.length : Int) - 1).toNat default).f5.f0), .d (.int .i64 (p.f0.getD ((p.f0.length : Int) - 1).toNat default).f5.f1), .d (.ints .u8 (p.f0.getD ((p.f0.length : Int) - 1).toNat default).f5.f2), .d (.ints .u8 (p.f0.getD ((p.f0.length : Int) - 1).toNat default).f5.f3), .d (.bss (p.f0.getD ((p.f0.length : Int) - 1).toNat default).f5.f4)]) rfl rfl (lt_ok rfl) (by kernel_rfl) rfl rfl (by simp only [List.range, List.range.loop, List.map_cons, List.map_nil]; rw [cell_map default (by first | omega | (simp; omega)), cell_map default (by first | omega | (simp; omega)), cell_map default (by first | omega | (simp; omega)), cell_map default (by first | omega | (simp; omega)), cell_map default (by first | omega | (simp; omega)), cell_map default (by first | omega | (simp; omega)), cell_map default (by first | omega | (simp; omega)), cell_map default (by first | omega | (simp; omega)), cell_map default (by first | omega | (simp; omega)), cell_map default (by first | omega | (simp; omega))]; rfl)) ?_
 refine TL.cons rfl (Step.alloc (cs := [.int .i64 0, .int .i64 0, .int .i64 0, .slice none 0 0, .slice none 0 0, .int .i64 0, .int .i64 0, .slice none 0 0, .slice none 0 0, .slice none 0 0]) (ps := [.d (.int .i64 0), .d (.int .i64 0), .d (.int .i64 0), .nil, .nil, .d (.int .i64 0), .d (.int .i64 0), .nil, .nil, .nil]) rfl rfl (lt_ok rfl) (by kernel_rfl) rfl rfl rfl rfl) ?_
 refine TL.cons rfl (Step.store_box (n := 10) (p := (.agg [.d (.int .i64 (p.f0.getD ((p.f0.length : Int) - 1).toNat default).f0), .d (.int .i64 (p.f0.getD ((p.f0.length : Int) - 1).toNat default).f1), .d (.int .i64 (p.f0.getD ((p.f0.length : Int) - 1).toNat default).f2), .d (.ints .u8 (p.f0.getD ((p.f0.length : Int) - 1).toNat default).f3), .d (.ints .u8 (p.f0.getD ((p.f0.length : Int) - 1).toNat default).f4), .d (.int .i64 (p.f0.getD ((p.f0.length : Int) - 1).toNat default).f5.f0), .d (.int .i64 (p.f0.getD ((p.f0.length : Int) - 1).toNat default).f5.f1), .d (.ints .u8 (p.f0.getD ((p.f0.length : Int) - 1).toNat default).f5.f2), .d (.ints .u8 (p.f0.getD ((p.f0.length : Int) - 1).toNat default).f5.f3), .d (.bss (p.f0.getD ((p.f0.length : Int) - 1).toNat default).f5.f4)])) (qs := [.d (.int .i64 (p.f0.getD ((p.f0.length : Int) - 1).toNat default).f0), .d (.int .i64 (p.f0.getD ((p.f0.length : Int) - 1).toNat default).f1), .d (.int .i64 (p.f0.getD ((p.f0.length : Int) - 1).toNat default).f2), .d (.ints .u8 (p.f0.getD ((p.f0.length : Int) - 1).toNat default).f3), .d (.ints .u8 (p.f0.getD ((p.f0.length : Int) - 1).toNat default).f4), .d (.int .i64 (p.f0.getD ((p.f0.length : Int) - 1).toNat default).f5.f0), .d (.int .i64 (p.f0.getD ((p.f0.length : Int) - 1).toNat default).f5.f1), .d (.ints .u8 (p.f0.getD ((p.f0.length : Int) - 1).toNat default).f5.f2), .d (.ints .u8 (p.f0.getD ((p.f0.length : Int) - 1).toNat default).f5.f3), .d (.bss (p.f0.getD ((p.f0.length : Int) - 1).toNat default).f5.f4)]) (ps' := [.d (.int .i64 (p.f0.getD ((p.f0.length : Int) - 1).toNat default).f0), .d (.int .i64 (p.f0.getD ((p.f0.length : Int) - 1).toNat default).f1), .d (.int .i64 (p.f0.getD ((p.f0.length : Int) - 1).toNat default).f2), .d (.ints .u8 (p.f0.getD ((p.f0.length : Int) - 1).toNat default).f3), .d (.ints .u8 (p.f0.getD ((p.f0.length : Int) - 1).toNat default).f4), .d (.int .i64 (p.f0.getD ((p.f0.length : Int) - 1).toNat default).f5.f0), .d (.int .i64 (p.f0.getD ((p.f0.length : Int) - 1).toNat default).f5.f1), .d (.ints .u8 (p.f0.getD ((p.f0.length : Int) - 1).toNat default).f5.f2), .d (.ints .u8 (p.f0.getD ((p.f0.length : Int) - 1).toNat default).f5.f3), .d (.bss (p.f0.getD ((p.f0.length : Int) - 1).toNat default).f5.f4)]) rfl rfl (by kernel_rfl) rfl rfl rfl rfl rfl rfl (le_ok rfl) rfl) ?_
 refine TL.nil ?_
 refine T.seq ?_
 refine T.region ?_
 refine TL.cons rfl (Step.fieldAddr (q := 0) (off := 1) (n := 5) (one := false) rfl rfl (lt_ok rfl) (by kernel_rfl) (Nat.succ_ne_zero _) rfl) ?_
 refine TL.cons rfl (Step.fieldAddr (q := 1) (off := 0) (n := 1) (one := true) rfl rfl (lt_ok rfl) (by kernel_rfl) (Nat.succ_ne_zero _) rfl) ?_
 refine TL.cons rfl (Step.load_box (c := .d (.int .i64 p.f1.f0)) rfl rfl (lt_ok rfl) (by kernel_rfl) rfl rfl rfl) ?_
 refine TL.cons rfl (Step.fieldAddr (q := 0) (off := 0) (n := 1) (one := true) rfl rfl (lt_ok rfl) (by kernel_rfl) (Nat.succ_ne_zero _) rfl) ?_
 refine TL.cons rfl (Step.load_box (c := .d (.int .i64 (p.f0.getD ((p.f0.length : Int) - 1).toNat default).f0)) rfl rfl (lt_ok rfl) (by kernel_rfl) rfl rfl rfl) ?_
 refine TL.cons rfl (Step.bin rfl rfl (lt_ok rfl) rfl rfl (Bin.eql (k := .i64) (a := p.f1.f0) (b := (p.f0.getD ((p.f0.length : Int) - 1).toNat default).f0))) ?_
 refine TL.cons rfl (Step.move (p := (.one (.d (.bool (decide (p.f1.f0 = (p.f0.getD ((p.f0.length : Int) - 1).toNat default).f0)))))) rfl rfl (lt_ok rfl) rfl) ?_
 rcases Bool.eq_false_or_eq_true (decide (p.f1.f0 = (p.f0.getD ((p.f0.length : Int) - 1).toNat default).f0)) with hb1 | hb1
 ·
  refine TL.known 18 hb1 rfl ?_
  refine TL.gyes 18 rfl rfl (lt_ok rfl) rfl (Step.fieldAddr (q := 0) (off := 1) (n := 5) (one := false) rfl rfl (lt_ok rfl) (by kernel_rfl) (Nat.succ_ne_zero _) rfl) ?_
  refine TL.gyes 18 rfl rfl (lt_ok rfl) rfl (Step.fieldAddr (q := 1) (off := 1) (n := 1) (one := true) rfl rfl (lt_ok rfl) (by kernel_rfl) (Nat.succ_ne_zero _) rfl) ?_
  refine TL.gyes 18 rfl rfl (lt_ok rfl) rfl (Step.load_box (c := .d (.int .i64 p.f1.f1)) rfl rfl (lt_ok rfl) (by kernel_rfl) rfl rfl rfl) ?_
  refine TL.gyes 18 rfl rfl (lt_ok rfl) rfl (Step.fieldAddr (q := 0) (off := 1) (n := 1) (one := true) rfl rfl (lt_ok rfl) (by kernel_rfl) (Nat.succ_ne_zero _) rfl) ?_
  refine TL.gyes 18 rfl rfl (lt_ok rfl) rfl (Step.load_box (c := .d (.int .i64 (p.f0.getD ((p.f0.length : Int) - 1).toNat default).f1)) rfl rfl (lt_ok rfl) (by kernel_rfl) rfl rfl rfl) ?_
  refine TL.gyes 18 rfl rfl (lt_ok rfl) rfl (Step.bin rfl rfl (lt_ok rfl) rfl rfl (Bin.eql (k := .i64) (a := p.f1.f1) (b := (p.f0.getD ((p.f0.length : Int) - 1).toNat default).f1))) ?_
  refine TL.cons rfl (Step.pick (b := true) (p := (.one (.d (.bool (decide (p.f1.f1 = (p.f0.getD ((p.f0.length : Int) - 1).toNat default).f1)))))) rfl rfl (lt_ok rfl) rfl rfl) ?_
  refine TL.cons rfl (Step.assign (p := (.one (.d (.bool (decide (p.f1.f1 = (p.f0.getD ((p.f0.length : Int) - 1).toNat default).f1)))))) rfl rfl (lt_ok rfl) rfl) ?_
  refine TL.nil ?_
  refine T.ret ?_
  refine ⟨[(false, [.d (.bool (decide (p.f1.f1 = (p.f0.getD ((p.f0.length : Int) - 1).toNat default).f1)))])], (.cons rfl .nil), rfl, [], (RetC.rd' ?_ .nil)⟩ <;> (first | rfl | (congr 1; symm; simp only [closes, *, Bool.and_true, Bool.true_and, Bool.and_false, Bool.false_and, decide_true, decide_false, and_true, true_and, and_self, and_false, false_and, Bool.and_self, not_true, not_false, Bool.not_true, Bool.not_false, ge_iff_le, gt_iff_lt, if_true, if_false, Bool.false_eq_true, ite_true, ite_false, reduceIte]; done) | (congr 1; symm; simp_all [closes]; done) | (congr 1; symm; simp_all [closes]; omega))
 ·
  refine TL.known 18 hb1 rfl ?_
  refine TL.goff 18 rfl rfl (lt_ok rfl) rfl rfl rfl (lt_ok rfl) ?_
  refine TL.goff 18 rfl rfl (lt_ok rfl) rfl rfl rfl (lt_ok rfl) ?_
  refine TL.goff 18 rfl rfl (lt_ok rfl) rfl rfl rfl (lt_ok rfl) ?_
  refine TL.goff 18 rfl rfl (lt_ok rfl) rfl rfl rfl (lt_ok rfl) ?_
  refine TL.goff 18 rfl rfl (lt_ok rfl) rfl rfl rfl (lt_ok rfl) ?_
  refine TL.goff 18 rfl rfl (lt_ok rfl) rfl rfl rfl (lt_ok rfl) ?_
  refine TL.cons rfl (Step.pick (b := false) (p := (.one (.d (.bool false)))) rfl rfl (lt_ok rfl) rfl rfl) ?_
  refine TL.cons rfl (Step.assign (p := (.one (.d (.bool false)))) rfl rfl (lt_ok rfl) rfl) ?_
  refine TL.nil ?_
  refine T.ret ?_
  refine ⟨[(false, [.d (.bool false)])], (.cons rfl .nil), rfl, [], (RetC.rd' ?_ .nil)⟩ <;> (first | rfl | (congr 1; symm; simp only [closes, *, Bool.and_true, Bool.true_and, Bool.and_false, Bool.false_and, decide_true, decide_false, and_true, true_and, and_self, and_false, false_and, Bool.and_self, not_true, not_false, Bool.not_true, Bool.not_false, ge_iff_le, gt_iff_lt, if_true, if_false, Bool.false_eq_true, ite_true, ite_false, reduceIte]; done) | (congr 1; symm; simp_all [closes]; done) | (congr 1; symm; simp_all [closes]; omega))
theorem ok_impl_readProof (b : List Int) (s : SRS) (l : SLimits) (h0_ : U8s b) (h1_ : b.length ≤ 1048576) (h2_ : s.f1 = 0 → limOk l = true) : BX Try.prog 95 [.rd (.agg [(.int .i64 l.f0), (.int .i64 l.f1), (.int .i64 l.f2), (.int .i64 l.f3), (.int .i64 l.f4)]), .bx] 144 [.rd (.ints .u8 b), .rd (.int .i64 s.f0), .rd (.int .i64 s.f1)] [.rd (.ints .u8 b), .rd (.int .i64 (rdProof l b s).1.f0), .rd (.int .i64 (rdProof l b s).1.f1)] [(true, [.own 54 (.sl 10 ((rdProof l b s).2.f0.map SHead.cells)), .rd (.int .i64 (rdProof l b s).2.f1.f0), .rd (.int .i64 (rdProof l b s).2.f1.f1), .own 5 (.ints .u8 (rdProof l b s).2.f1.f2), .own 5 (.ints .u8 (rdProof l b s).2.f1.f3), .own 24 (.bss (rdProof l b s).2.f1.f4)])] := by
 refine BX.intro Try.func95 rfl 57 rfl (le_ok rfl) (le_ok rfl) fun w Z IX pin hp => ?_
 refine T.seq ?_
 refine T.region ?_
 refine TL.cons rfl (Step.box (p := (.agg [.d (.int .i64 l.f0), .d (.int .i64 l.f1), .d (.int .i64 l.f2), .d (.int .i64 l.f3), .d (.int .i64 l.f4)])) (ps := [.d (.int .i64 l.f0), .d (.int .i64 l.f1), .d (.int .i64 l.f2), .d (.int .i64 l.f3), .d (.int .i64 l.f4)]) rfl rfl (lt_ok rfl) rfl rfl rfl rfl rfl) ?_
 refine TL.cons rfl (Step.alloc (cs := [.slice none 0 0, .int .i64 0, .int .i64 0, .slice none 0 0, .slice none 0 0, .slice none 0 0]) (ps := [.nil, .d (.int .i64 0), .d (.int .i64 0), .nil, .nil, .nil]) rfl rfl (lt_ok rfl) (by kernel_rfl) rfl rfl rfl rfl) ?_
 refine TL.nil ?_
 refine T.seq ?_
 refine T.region ?_
 refine TL.cons rfl (Step.build (zs := [.slice none 0 0, .int .i64 0, .int .i64 0, .slice none 0 0, .slice none 0 0, .slice none 0 0]) (places := [(0, 1), (1, 5)]) (pss := []) (ps' := [.nil, .d (.int .i64 0), .d (.int .i64 0), .nil, .nil, .nil]) rfl rfl (lt_ok rfl) (by kernel_rfl) .nil rfl rfl rfl) ?_
 refine TL.cons rfl (Step.move (p := (.one (.ptr 800 0))) rfl rfl (lt_ok rfl) rfl) ?_
 have nn1 := @rdNum_bd b (by assumption) s
 refine TL.cons rfl (Step.callX2 (b := 800) (xs := [.tmp 9]) (ps := [(.one (.ptr 800 0))]) (bps := [.d (.ints .u8 b), .d (.int .i64 s.f0), .d (.int .i64 s.f1)]) (ss := []) (g := .func 136) (ok_impl_reader__num b s (by assumption) (by first | omega | assumption | (simp only [List.length_append] at *; omega))) rfl rfl (lt_ok rfl) rfl (by kernel_rfl) rfl (.cons (.bx) .nil) rfl (.rd (.rd (.rd .nil))) rfl rfl (fun x hx => by have := hp x hx; omega) rfl) ?_
 refine TL.cons rfl (Step.alloc (cs := [.slice none 0 0, .int .i64 0, .int .i64 0, .slice none 0 0, .slice none 0 0, .slice none 0 0]) (ps := [.nil, .d (.int .i64 0), .d (.int .i64 0), .nil, .nil, .nil]) rfl rfl (lt_ok rfl) (by kernel_rfl) rfl rfl rfl rfl) ?_
 refine TL.cons rfl (Step.store_box (n := 6) (p := (.agg [.nil, .d (.int .i64 0), .d (.int .i64 0), .nil, .nil, .nil])) (qs := [.nil, .d (.int .i64 0), .d (.int .i64 0), .nil, .nil, .nil]) (ps' := [.nil, .d (.int .i64 0), .d (.int .i64 0), .nil, .nil, .nil]) rfl rfl (by kernel_rfl) rfl rfl rfl rfl rfl rfl (le_ok rfl) rfl) ?_
 refine TL.cons rfl (Step.assign (p := (.one (.d (.int .i64 (rdNum b s).2)))) rfl rfl (lt_ok rfl) rfl) ?_
 refine TL.nil ?_
 refine T.seq ?_
 refine T.region ?_
 refine TL.cons rfl (Step.move (p := (.one (.ptr 800 0))) rfl rfl (lt_ok rfl) rfl) ?_
 refine TL.cons rfl (Step.move (p := (.one (.d (.int .i64 (rdNum b s).2)))) rfl rfl (lt_ok rfl) rfl) ?_
 refine TL.cons rfl (Step.bin rfl rfl (lt_ok rfl) rfl rfl (Bin.geq (k := .i64) (a := (rdNum b s).2) (b := 3))) ?_
 refine TL.cons rfl (Step.callX2 (b := 800) (xs := [.tmp 11, .tmp 13, .const (.int .i64 5)]) (ps := [(.one (.ptr 800 0)), (.one (.d (.bool (decide (3 ≤ (rdNum b s).2))))), (.one (.d (.int .i64 5)))]) (bps := [.d (.ints .u8 b), .d (.int .i64 (rdNum b s).1.f0), .d (.int .i64 (rdNum b s).1.f1)]) (ss := []) (g := .func 142) (ok_impl_reader__must b (rdNum b s).1 (decide (3 ≤ (rdNum b s).2)) 5 (by assumption) (by first | omega | assumption | (simp only [List.length_append] at *; omega))) rfl rfl (lt_ok rfl) rfl (by kernel_rfl) rfl (.cons (.bx) (.cons (.rd (.one (.d _))) (.cons (.rd (.one (.d _))) .nil))) rfl (.rd (.rd (.rd .nil))) rfl rfl (fun x hx => by have := hp x hx; omega) rfl) ?_
 refine TL.nil ?_
 refine T.seq ?_
 refine T.region ?_
 refine TL.cons rfl (Step.move (p := (.one (.ptr 800 0))) rfl rfl (lt_ok rfl) rfl) ?_
 refine TL.cons rfl (Step.move (p := (.one (.d (.int .i64 (rdNum b s).2)))) rfl rfl (lt_ok rfl) rfl) ?_
 refine TL.cons rfl (Step.fieldAddr (q := 0) (off := 4) (n := 1) (one := true) rfl rfl (lt_ok rfl) (by kernel_rfl) (Nat.succ_ne_zero _) rfl) ?_
 refine TL.cons rfl (Step.load_box (c := .d (.int .i64 l.f4)) rfl rfl (lt_ok rfl) (by kernel_rfl) rfl rfl rfl) ?_
 refine TL.cons rfl (Step.bin rfl rfl (lt_ok rfl) rfl rfl (Bin.leq (k := .i64) (a := (rdNum b s).2) (b := l.f4))) ?_
 refine TL.cons rfl (Step.callX2 (b := 800) (xs := [.tmp 15, .tmp 19, .const (.int .i64 3)]) (ps := [(.one (.ptr 800 0)), (.one (.d (.bool (decide ((rdNum b s).2 ≤ l.f4))))), (.one (.d (.int .i64 3)))]) (bps := [.d (.ints .u8 b), .d (.int .i64 (rdMust (rdNum b s).1 (decide (3 ≤ (rdNum b s).2)) 5).f0), .d (.int .i64 (rdMust (rdNum b s).1 (decide (3 ≤ (rdNum b s).2)) 5).f1)]) (ss := []) (g := .func 142) (ok_impl_reader__must b (rdMust (rdNum b s).1 (decide (3 ≤ (rdNum b s).2)) 5) (decide ((rdNum b s).2 ≤ l.f4)) 3 (by assumption) (by first | omega | assumption | (simp only [List.length_append] at *; omega))) rfl rfl (lt_ok rfl) rfl (by kernel_rfl) rfl (.cons (.bx) (.cons (.rd (.one (.d _))) (.cons (.rd (.one (.d _))) .nil))) rfl (.rd (.rd (.rd .nil))) rfl rfl (fun x hx => by have := hp x hx; omega) rfl) ?_
 refine TL.nil ?_
 refine T.seq ?_
 refine T.seq ?_
 refine T.region ?_
 refine TL.cons rfl (Step.assign (p := (.one (.d (.int .i64 0)))) rfl rfl (lt_ok rfl) rfl) ?_
 refine TL.nil ?_
 refine T.block ?_
 refine T.nilrow 5 0 100500 54 40 (.sl 10 []) [.nil, .d (.int .i64 0), .d (.int .i64 0), .nil, .nil, .nil] rfl rfl rfl (fun x hx => by have := hp x hx; omega) rfl rfl (D.wf_nil _) ?_
 refine T.loop (ι := Nat × SRS × (List SHead)) (fun xx_ => { tm := [(1, (.one (.ptr 800 0))), (2, (.one (.ptr 2 0))), (4, (.one (.ptr 4 0))), (5, (.one (.ptr 5 0))), (6, (.one (.d (.int .i64 (rdNum b s).2)))), (7, (.one (.d (.int .i64 ((xx_.1) : Int)))))], rows := [(100500, (54, (.sl 10 ((xx_.2.2).map SHead.cells))))], boxes := [(800, (144, [.d (.ints .u8 b), .d (.int .i64 (xx_.2.1).f0), .d (.int .i64 (xx_.2.1).f1)])), (2, (34, [.d (.int .i64 l.f0), .d (.int .i64 l.f1), .d (.int .i64 l.f2), .d (.int .i64 l.f3), .d (.int .i64 l.f4)])), (4, (40, [.nil, .d (.int .i64 0), .d (.int .i64 0), .nil, .nil, .nil])), (5, (40, [.row 100500 [], .d (.int .i64 0), .d (.int .i64 0), .nil, .nil, .nil]))] }) (fun xx_ => ((xx_.1) : Int) ≤ (rdNum b s).2 ∧ ((xx_.2.1).f1 = 0 → 3 ≤ (rdNum b s).2 ∧ (rdNum b s).2 ≤ 5) ∧ (xx_.2.2).length = (xx_.1) ∧ rdHs l b ((rdNum b s).2.toNat - (xx_.1)) (xx_.2.1) (xx_.2.2) = rdHs l b (rdNum b s).2.toNat (rdProof0 l b s) []) (fun xx_ => ((rdNum b s).2).toNat - (xx_.1)) (0, (rdMust (rdMust (rdNum b s).1 (decide (3 ≤ (rdNum b s).2)) 5) (decide ((rdNum b s).2 ≤ l.f4)) 3), []) ?_ ?_ ?_
 · refine Env.le_mk ⟨rfl, rfl, rfl, rfl, rfl, ?_, trivial⟩ ⟨?_, trivial⟩ ⟨?_, rfl, rfl, rfl, trivial⟩ <;> (first | rfl | (refine congrArg (fun n => PV.one (.d (.int .i64 n))) ?_; first | rfl | omega | (simp; done)))
 · (dsimp only; refine ⟨by omega, fun h_ => by first | exact rdProof0_z h2_ h_ | omega, rfl, rfl⟩)
 ·
  intro xx_ hx
  obtain ⟨i, q, hs⟩ := xx_
  try dsimp only at hx ⊢
  obtain ⟨hx1, hx2, hx3, hx4⟩ := hx
  have hz_ := @rdQc_z l b q
  refine T.seq ?_
  refine T.seq ?_
  refine T.region ?_
  refine TL.cons rfl (Step.move (p := (.one (.d (.int .i64 (i : Int))))) rfl rfl (lt_ok rfl) rfl) ?_
  refine TL.cons rfl (Step.move (p := (.one (.d (.int .i64 (rdNum b s).2)))) rfl rfl (lt_ok rfl) rfl) ?_
  refine TL.cons rfl (Step.bin rfl rfl (lt_ok rfl) rfl rfl (Bin.lss (k := .i64) (a := (i : Int)) (b := (rdNum b s).2))) ?_
  refine TL.cons rfl (Step.move (p := (.one (.d (.bool (decide ((i : Int) < (rdNum b s).2)))))) rfl rfl (lt_ok rfl) rfl) ?_
  rcases Bool.eq_false_or_eq_true (decide ((i : Int) < (rdNum b s).2)) with hb2 | hb2
  ·
   refine TL.known 24 hb2 rfl ?_
   have hb2' := hb2
   replace hb2' := of_decide_eq_true hb2'
   refine TL.gyes 24 rfl rfl (lt_ok rfl) rfl (Step.move (p := (.one (.ptr 800 0))) rfl rfl (lt_ok rfl) rfl) ?_
   refine TL.gyes 24 rfl rfl (lt_ok rfl) rfl (Step.nilCheck rfl rfl (lt_ok rfl) rfl) ?_
   refine TL.gyes 24 rfl rfl (lt_ok rfl) rfl (Step.fieldAddr (q := 0) (off := 2) (n := 1) (one := true) rfl rfl (lt_ok rfl) (by kernel_rfl) (Nat.succ_ne_zero _) rfl) ?_
   refine TL.gyes 24 rfl rfl (lt_ok rfl) rfl (Step.load_box (c := .d (.int .i64 q.f1)) rfl rfl (lt_ok rfl) (by kernel_rfl) rfl rfl rfl) ?_
   refine TL.gyes 24 rfl rfl (lt_ok rfl) rfl (Step.bin rfl rfl (lt_ok rfl) rfl rfl (Bin.eql (k := .i64) (a := q.f1) (b := 0))) ?_
   refine TL.cons rfl (Step.pick (b := true) (p := (.one (.d (.bool (decide (q.f1 = 0)))))) rfl rfl (lt_ok rfl) rfl rfl) ?_
   refine TL.nil ?_
   refine T.cond (b := decide (q.f1 = 0)) rfl (fun h3 => ?_) (fun h3 => ?_)
   ·
    replace h3 := of_decide_eq_true h3
    refine T.skip ?_
    refine T.seq ?_
    refine T.block ?_
    have nn4 := @rdHead_sm l b q (by first | assumption | omega)
    have nn5 := @rdHead_ok l b q (by assumption)
    refine T.drawX [{ dst := some 33, pv := (.one (.ptr 5 0)) }, { dst := some 34, pv := (.one (.row 100500 [])) }, { dst := some 35, pv := (.agg [.d (.int .i64 l.f0), .d (.int .i64 l.f1), .d (.int .i64 l.f2), .d (.int .i64 l.f3), .d (.int .i64 l.f4)]) }, { dst := some 36, pv := (.one (.ptr 800 0)) }, { dst := some 37, pv := (.agg [.d (.int .i64 (rdHead l b q).2.f0), .d (.int .i64 (rdHead l b q).2.f1), .d (.int .i64 (rdHead l b q).2.f2), .row 7037 [], .row 8037 [], .d (.int .i64 (rdHead l b q).2.f5.f0), .d (.int .i64 (rdHead l b q).2.f5.f1), .row 11037 [], .row 12037 [], .row 13037 []]), rows := [(13037, (24, (.bss (rdHead l b q).2.f5.f4))), (12037, (5, (.ints .u8 (rdHead l b q).2.f5.f3))), (11037, (5, (.ints .u8 (rdHead l b q).2.f5.f2))), (8037, (5, (.ints .u8 (rdHead l b q).2.f4))), (7037, (5, (.ints .u8 (rdHead l b q).2.f3)))], box := some (800, (144, [.d (.ints .u8 b), .d (.int .i64 (rdHead l b q).1.f0), .d (.int .i64 (rdHead l b q).1.f1)])) }, { dst := some 38, pv := (.one (.row 38 [])), rows := [(38, (54, (.sl 10 ([(rdHead l b q).2].map SHead.cells))))], dead := [7037, 8037, 11037, 12037, 13037] }, { dst := some 39, pv := (.one (.row 500039 [])), rows := [(500039, (54, (.sl 10 ((hs ++ [(rdHead l b q).2]).map SHead.cells))))], dead := [100500, 38] }, { dst := some 40, pv := (.one (.ptr 5 0)) }, { box := some (5, (40, [.row 500039 [], .d (.int .i64 0), .d (.int .i64 0), .nil, .nil, .nil])) }] (by kernel_rfl) (by kernel_rfl) ?_ ?_
    ·
     refine .cons (fun E hA_ => by have g5 : E.get 5 = (.one (.ptr 5 0)) := (hA_.get 5 (by kernel_rfl)).trans (by kernel_rfl); exact OpStep.plain rfl (Step.fieldAddr (q := 0) (off := 0) (n := 1) (one := true) (t := 33) rfl rfl (by exact lt_ok rfl) (by kernel_rfl) (Nat.succ_ne_zero _) (show Env.ev E (.tmp 5) = _ from g5.trans rfl))) ?_
     refine .cons (fun E hA_ => by have g33 : E.get 33 = (.one (.ptr 5 0)) := (hA_.get 33 (by kernel_rfl)).trans (by kernel_rfl); have b5 : E.box 5 = some (40, [.row 100500 [], .d (.int .i64 0), .d (.int .i64 0), .nil, .nil, .nil]) := (hA_.box 5 (by kernel_rfl)).trans (by kernel_rfl); exact OpStep.plain rfl (Step.load_box (c := .row 100500 []) (t := 34) rfl rfl (by exact lt_ok rfl) (by kernel_rfl) (show Env.ev E (.tmp 33) = _ from g33.trans rfl) b5 rfl)) ?_
     refine .cons (fun E hA_ => by have g2 : E.get 2 = (.one (.ptr 2 0)) := (hA_.get 2 (by kernel_rfl)).trans (by kernel_rfl); have b2 : E.box 2 = some (34, [.d (.int .i64 l.f0), .d (.int .i64 l.f1), .d (.int .i64 l.f2), .d (.int .i64 l.f3), .d (.int .i64 l.f4)]) := (hA_.box 2 (by kernel_rfl)).trans (by kernel_rfl); exact OpStep.plain rfl (Step.load_box_agg (n := 5) (qs := [.d (.int .i64 l.f0), .d (.int .i64 l.f1), .d (.int .i64 l.f2), .d (.int .i64 l.f3), .d (.int .i64 l.f4)]) (t := 35) rfl rfl (by exact lt_ok rfl) (by kernel_rfl) (show Env.ev E (.tmp 2) = _ from g2.trans rfl) b2 rfl rfl)) ?_
     refine .cons (fun E hA_ => by have g1 : E.get 1 = (.one (.ptr 800 0)) := (hA_.get 1 (by kernel_rfl)).trans (by kernel_rfl); exact OpStep.plain rfl (Step.move (p := (.one (.ptr 800 0))) (t := 36) rfl rfl (by exact lt_ok rfl) (show Env.ev E (.tmp 1) = _ from g1.trans rfl))) ?_
     refine .cons (fun E hA_ => by have g35 : E.get 35 = (.agg [.d (.int .i64 l.f0), .d (.int .i64 l.f1), .d (.int .i64 l.f2), .d (.int .i64 l.f3), .d (.int .i64 l.f4)]) := (hA_.get 35 (by kernel_rfl)).trans (by kernel_rfl); have g36 : E.get 36 = (.one (.ptr 800 0)) := (hA_.get 36 (by kernel_rfl)).trans (by kernel_rfl); have b800 : E.box 800 = some (144, [.d (.ints .u8 b), .d (.int .i64 q.f0), .d (.int .i64 q.f1)]) := (hA_.box 800 (by kernel_rfl)).trans (by kernel_rfl); exact OpStep.plain rfl (Step.callXX2 (b := 800) (xs := [.tmp 35, .tmp 36]) (ps := [(.agg [.d (.int .i64 l.f0), .d (.int .i64 l.f1), .d (.int .i64 l.f2), .d (.int .i64 l.f3), .d (.int .i64 l.f4)]), (.one (.ptr 800 0))]) (bps := [.d (.ints .u8 b), .d (.int .i64 q.f0), .d (.int .i64 q.f1)]) (ss := []) (g := .func 92) (t := 37) (ok_impl_readHead b q l (by assumption) (by first | omega | assumption | (simp only [List.length_append] at *; omega))) rfl rfl (by exact lt_ok rfl) rfl (by kernel_rfl) (evs_cons (show Env.ev E (.tmp 35) = _ from g35.trans rfl) (evs_cons (show Env.ev E (.tmp 36) = _ from g36.trans rfl) (rfl))) (.cons (.rd (.agg (.cons (.d _) (.cons (.d _) (.cons (.d _) (.cons (.d _) (.cons (.d _) .nil))))))) (.cons (.bx) .nil)) b800 (.rd (.rd (.rd .nil))) rfl (handX_fresh (fun x_ hx_ => hA_.fresh x_ (by exact hx_))) (fun x hx => by have := hp x hx; omega) rfl (by simp [rowsOf, rid]))) ?_
     refine .cons (fun E hA_ => by have g37 : E.get 37 = (.agg [.d (.int .i64 (rdHead l b q).2.f0), .d (.int .i64 (rdHead l b q).2.f1), .d (.int .i64 (rdHead l b q).2.f2), .row 7037 [], .row 8037 [], .d (.int .i64 (rdHead l b q).2.f5.f0), .d (.int .i64 (rdHead l b q).2.f5.f1), .row 11037 [], .row 12037 [], .row 13037 []]) := (hA_.get 37 (by kernel_rfl)).trans (by kernel_rfl); have q7037 : E.row 7037 = some (5, (.ints .u8 (rdHead l b q).2.f3)) := (hA_.row 7037 (by kernel_rfl)).trans (by kernel_rfl); have q8037 : E.row 8037 = some (5, (.ints .u8 (rdHead l b q).2.f4)) := (hA_.row 8037 (by kernel_rfl)).trans (by kernel_rfl); have q11037 : E.row 11037 = some (5, (.ints .u8 (rdHead l b q).2.f5.f2)) := (hA_.row 11037 (by kernel_rfl)).trans (by kernel_rfl); have q12037 : E.row 12037 = some (5, (.ints .u8 (rdHead l b q).2.f5.f3)) := (hA_.row 12037 (by kernel_rfl)).trans (by kernel_rfl); have q13037 : E.row 13037 = some (24, (.bss (rdHead l b q).2.f5.f4)) := (hA_.row 13037 (by kernel_rfl)).trans (by kernel_rfl); exact OpStep.plain rfl (Step.litX (e := 54) (z := 10) (by_ := 160) (xs := [.tmp 37]) (pss := [[.d (.int .i64 (rdHead l b q).2.f0), .d (.int .i64 (rdHead l b q).2.f1), .d (.int .i64 (rdHead l b q).2.f2), .row 7037 [], .row 8037 [], .d (.int .i64 (rdHead l b q).2.f5.f0), .d (.int .i64 (rdHead l b q).2.f5.f1), .row 11037 [], .row 12037 [], .row 13037 []]]) (es := [(.int .i64 (rdHead l b q).2.f0), (.int .i64 (rdHead l b q).2.f1), (.int .i64 (rdHead l b q).2.f2), (.ints .u8 (rdHead l b q).2.f3), (.ints .u8 (rdHead l b q).2.f4), (.int .i64 (rdHead l b q).2.f5.f0), (.int .i64 (rdHead l b q).2.f5.f1), (.ints .u8 (rdHead l b q).2.f5.f2), (.ints .u8 (rdHead l b q).2.f5.f3), (.bss (rdHead l b q).2.f5.f4)]) (ss := [7037, 8037, 11037, 12037, 13037]) (d := (.sl 10 ([(rdHead l b q).2].map SHead.cells))) (t := 38) rfl rfl (by exact lt_ok rfl) (by kernel_rfl) rfl rfl (.cons (by exact (congrArg PV.flat (show Env.ev E (.tmp 37) = _ from g37.trans rfl)).trans rfl) .nil) (by simp) (le_ok rfl) (le_ok rfl) (by simp only [List.all_cons, List.all_nil, List.flatten_cons, List.flatten_nil, List.append_nil, List.cons_append, List.nil_append, Env.fine, q7037, q8037, q11037, q12037, q13037]; rfl) (.val rfl (.val rfl (.val rfl (.row q7037 (by simp) (.row q8037 (by simp) (.val rfl (.val rfl (.row q11037 (by simp) (.row q12037 (by simp) (.row q13037 (by simp) .nil)))))))))) (hA_.fresh _ (List.mem_singleton.2 rfl)) (by simp) (fun x_ hx_ => by have := hp x_ hx_; omega) rfl (wf_map SHead.len _) rfl rfl)) ?_
     refine .cons (fun E hA_ => by have g34 : E.get 34 = (.one (.row 100500 [])) := (hA_.get 34 (by kernel_rfl)).trans (by kernel_rfl); have g38 : E.get 38 = (.one (.row 38 [])) := (hA_.get 38 (by kernel_rfl)).trans (by kernel_rfl); have q38 : E.row 38 = some (54, (.sl 10 ([(rdHead l b q).2].map SHead.cells))) := (hA_.row 38 (by kernel_rfl)).trans (by kernel_rfl); have q100500 : E.row 100500 = some (54, (.sl 10 (hs.map SHead.cells))) := (hA_.row 100500 (by kernel_rfl)).trans (by kernel_rfl); exact OpStep.plain rfl (Step.appendX (e := 54) (z := 10) (by_ := 160) (d := (.sl 10 (hs.map SHead.cells))) (dy := (.sl 10 ([(rdHead l b q).2].map SHead.cells))) (d' := (.sl 10 ((hs ++ [(rdHead l b q).2]).map SHead.cells))) (ss := [38]) 500039 (t := 39) rfl rfl (by exact lt_ok rfl) (by kernel_rfl) (show Env.ev E (.tmp 34) = _ from g34.trans rfl) q100500 rfl (lt_ok rfl) (show Env.ev E (.tmp 38) = _ from g38.trans rfl) (.move q38) (by simp) app_sl (by simp only [D.size, List.length_map]; first | omega | (simp; omega) | (simp only [List.length_append] at *; omega)) (by simp only [D.size, List.length_map]; first | omega | (simp; omega) | (simp only [List.length_append] at *; omega)) (fun x_ hx_ => by have := hp x_ hx_; omega) (hA_.fresh _ (List.mem_singleton.2 rfl)) (by simp) (fun x_ hx_ => by have := hp x_ hx_; omega))) ?_
     refine .cons (fun E hA_ => by have g5 : E.get 5 = (.one (.ptr 5 0)) := (hA_.get 5 (by kernel_rfl)).trans (by kernel_rfl); exact OpStep.plain rfl (Step.fieldAddr (q := 0) (off := 0) (n := 1) (one := true) (t := 40) rfl rfl (by exact lt_ok rfl) (by kernel_rfl) (Nat.succ_ne_zero _) (show Env.ev E (.tmp 5) = _ from g5.trans rfl))) ?_
     refine .cons (fun E hA_ => by have g39 : E.get 39 = (.one (.row 500039 [])) := (hA_.get 39 (by kernel_rfl)).trans (by kernel_rfl); have g40 : E.get 40 = (.one (.ptr 5 0)) := (hA_.get 40 (by kernel_rfl)).trans (by kernel_rfl); have q500039 : E.row 500039 = some (54, (.sl 10 ((hs ++ [(rdHead l b q).2]).map SHead.cells))) := (hA_.row 500039 (by kernel_rfl)).trans (by kernel_rfl); have b5 : E.box 5 = some (40, [.row 100500 [], .d (.int .i64 0), .d (.int .i64 0), .nil, .nil, .nil]) := (hA_.box 5 (by kernel_rfl)).trans (by kernel_rfl); exact OpStep.plain rfl (Step.store_box (n := 1) (p := (.one (.row 500039 []))) (qs := [.row 500039 []]) (ps' := [.row 500039 [], .d (.int .i64 0), .d (.int .i64 0), .nil, .nil, .nil]) rfl rfl (by kernel_rfl) (show Env.ev E (.tmp 40) = _ from g40.trans rfl) b5 (show Env.ev E (.tmp 39) = _ from g39.trans rfl) rfl rfl (by simp only [List.all_cons, List.all_nil, List.flatten_cons, List.flatten_nil, List.append_nil, List.cons_append, List.nil_append, Env.fine, q500039]; rfl) (le_ok rfl) rfl)) ?_
     exact .nil _ _
    refine TL.weaken (E' := { tm := [(1, (.one (.ptr 800 0))), (2, (.one (.ptr 2 0))), (4, (.one (.ptr 4 0))), (5, (.one (.ptr 5 0))), (6, (.one (.d (.int .i64 (rdNum b s).2)))), (7, (.one (.d (.int .i64 (i : Int))))), (21, (.one (.d (.int .i64 (i : Int))))), (22, (.one (.d (.int .i64 (rdNum b s).2)))), (23, (.one (.d (.bool (decide ((i : Int) < (rdNum b s).2)))))), (24, (.one (.d (.bool true)))), (25, (.one (.ptr 800 0))), (26, (.one (.ptr 800 0))), (27, (.one (.ptr 800 2))), (28, (.one (.d (.int .i64 q.f1)))), (29, (.one (.d (.bool (decide (q.f1 = 0)))))), (30, (.one (.d (.bool (decide (q.f1 = 0)))))), (33, (.one (.ptr 5 0))), (35, (.agg [.d (.int .i64 l.f0), .d (.int .i64 l.f1), .d (.int .i64 l.f2), .d (.int .i64 l.f3), .d (.int .i64 l.f4)])), (36, (.one (.ptr 800 0))), (39, (.one (.row 500039 []))), (40, (.one (.ptr 5 0)))], rows := [(500039, (54, (.sl 10 ((hs ++ [(rdHead l b q).2]).map SHead.cells))))], boxes := [(800, (144, [.d (.ints .u8 b), .d (.int .i64 (rdHead l b q).1.f0), .d (.int .i64 (rdHead l b q).1.f1)])), (2, (34, [.d (.int .i64 l.f0), .d (.int .i64 l.f1), .d (.int .i64 l.f2), .d (.int .i64 l.f3), .d (.int .i64 l.f4)])), (4, (40, [.nil, .d (.int .i64 0), .d (.int .i64 0), .nil, .nil, .nil])), (5, (40, [.row 500039 [], .d (.int .i64 0), .d (.int .i64 0), .nil, .nil, .nil]))] }) (Env.le_mk ⟨by kernel_rfl, by kernel_rfl, by kernel_rfl, by kernel_rfl, by kernel_rfl, by kernel_rfl, by kernel_rfl, by kernel_rfl, by kernel_rfl, by kernel_rfl, by kernel_rfl, by kernel_rfl, by kernel_rfl, by kernel_rfl, by kernel_rfl, by kernel_rfl, by kernel_rfl, by kernel_rfl, by kernel_rfl, by kernel_rfl, by kernel_rfl, trivial⟩ ⟨by kernel_rfl, trivial⟩ ⟨by kernel_rfl, by kernel_rfl, by kernel_rfl, by kernel_rfl, trivial⟩) ?_
    refine TL.ren 500039 100500 rfl (fun x hx => by have := hp x hx; omega) ?_
    refine TL.nil ?_
    refine T.region ?_
    refine TL.cons rfl (Step.move (p := (.one (.d (.int .i64 (i : Int))))) rfl rfl (lt_ok rfl) rfl) ?_
    refine TL.cons rfl (Step.bin (r := .int .i64 ((i : Int) + 1)) rfl rfl (lt_ok rfl) rfl rfl (Bin.add (a := (i : Int)) (b := 1) (by first | exact wrap_ok (by first | omega | (simp; omega)) (by first | omega | (simp; omega)) | rfl))) ?_
    refine TL.cons rfl (Step.assign (p := (.one (.d (.int .i64 ((i : Int) + 1))))) rfl rfl (lt_ok rfl) rfl) ?_
    refine TL.nil ?_
    refine ⟨(i + 1, (rdHead l b q).1, (hs ++ [(rdHead l b q).2])), by (try dsimp only); (refine ⟨by omega, fun _ => by omega, by simp only [List.length_append, List.length_cons, List.length_nil]; first | done | omega, ?_⟩; exact (rdHs_next (by omega) (by omega)).symm.trans hx4), by (dsimp only; omega), Env.le_mk ⟨rfl, rfl, rfl, rfl, rfl, ?_, trivial⟩ ⟨?_, trivial⟩ ⟨?_, rfl, rfl, rfl, trivial⟩⟩ <;> (first | rfl | (refine congrArg (fun n => PV.one (.d (.int .i64 n))) ?_; first | rfl | omega | (simp; done)))
   ·
    replace h3 := of_decide_eq_false h3
    refine T.exit ?_
    refine T.seq ?_
    refine T.region ?_
    refine TL.cons rfl (Step.load_box_agg (n := 5) (qs := [.d (.int .i64 l.f0), .d (.int .i64 l.f1), .d (.int .i64 l.f2), .d (.int .i64 l.f3), .d (.int .i64 l.f4)]) rfl rfl (lt_ok rfl) (by kernel_rfl) rfl rfl rfl rfl) ?_
    refine TL.cons rfl (Step.move (p := (.one (.ptr 800 0))) rfl rfl (lt_ok rfl) rfl) ?_
    have nn6 := @rdQc_sm l b q (by first | assumption | omega)
    have nn7 := @rdQc_ok l b q (by assumption)
    refine TL.cons rfl (Step.callX2 (b := 800) (xs := [.tmp 41, .tmp 42]) (ps := [(.agg [.d (.int .i64 l.f0), .d (.int .i64 l.f1), .d (.int .i64 l.f2), .d (.int .i64 l.f3), .d (.int .i64 l.f4)]), (.one (.ptr 800 0))]) (bps := [.d (.ints .u8 b), .d (.int .i64 q.f0), .d (.int .i64 q.f1)]) (ss := []) (g := .func 89) (ok_impl_readQc b q l (by assumption) (by first | omega | assumption | (simp only [List.length_append] at *; omega))) rfl rfl (lt_ok rfl) rfl (by kernel_rfl) rfl (.cons (.rd (.agg (.cons (.d _) (.cons (.d _) (.cons (.d _) (.cons (.d _) (.cons (.d _) .nil))))))) (.cons (.bx) .nil)) rfl (.rd (.rd (.rd .nil))) rfl rfl (fun x hx => by have := hp x hx; omega) rfl) ?_
    refine TL.cons rfl (Step.fieldAddr (q := 0) (off := 1) (n := 5) (one := false) rfl rfl (lt_ok rfl) (by kernel_rfl) (Nat.succ_ne_zero _) rfl) ?_
    refine TL.cons rfl (Step.store_box (n := 5) (p := (.agg [.d (.int .i64 (rdQc l b q).2.f0), .d (.int .i64 (rdQc l b q).2.f1), .row 6043 [], .row 7043 [], .row 8043 []])) (qs := [.d (.int .i64 (rdQc l b q).2.f0), .d (.int .i64 (rdQc l b q).2.f1), .row 6043 [], .row 7043 [], .row 8043 []]) (ps' := [.row 100500 [], .d (.int .i64 (rdQc l b q).2.f0), .d (.int .i64 (rdQc l b q).2.f1), .row 6043 [], .row 7043 [], .row 8043 []]) rfl rfl (by kernel_rfl) rfl rfl rfl rfl rfl rfl (le_ok rfl) rfl) ?_
    refine TL.nil ?_
    refine T.seq ?_
    refine T.region ?_
    refine TL.cons rfl (Step.move (p := (.one (.ptr 800 0))) rfl rfl (lt_ok rfl) rfl) ?_
    refine TL.cons rfl (Step.move (p := (.one (.ptr 800 0))) rfl rfl (lt_ok rfl) rfl) ?_
    refine TL.cons rfl (Step.nilCheck rfl rfl (lt_ok rfl) rfl) ?_
    refine TL.cons rfl (Step.fieldAddr (q := 0) (off := 2) (n := 1) (one := true) rfl rfl (lt_ok rfl) (by kernel_rfl) (Nat.succ_ne_zero _) rfl) ?_
    refine TL.cons rfl (Step.load_box (c := .d (.int .i64 (rdQc l b q).1.f1)) rfl rfl (lt_ok rfl) (by kernel_rfl) rfl rfl rfl) ?_
    refine TL.cons rfl (Step.bin rfl rfl (lt_ok rfl) rfl rfl (Bin.neq (k := .i64) (a := (rdQc l b q).1.f1) (b := 0))) ?_
    refine TL.cons rfl (Step.move (p := (.one (.d (.bool (decide ((rdQc l b q).1.f1 ≠ 0)))))) rfl rfl (lt_ok rfl) rfl) ?_
    rcases Bool.eq_false_or_eq_true (decide ((rdQc l b q).1.f1 ≠ 0)) with hb8 | hb8
    ·
     refine TL.known 51 hb8 rfl ?_
     have hb8' := hb8
     replace hb8' := of_decide_eq_true hb8'
     refine TL.goff 51 rfl rfl (lt_ok rfl) rfl rfl rfl (lt_ok rfl) ?_
     refine TL.goff 51 rfl rfl (lt_ok rfl) rfl rfl rfl (lt_ok rfl) ?_
     refine TL.cons rfl (Step.pick (b := true) (p := (.one (.d (.bool true)))) rfl rfl (lt_ok rfl) rfl rfl) ?_
     refine TL.cons rfl (Step.callX2 (b := 800) (xs := [.tmp 45, .tmp 54, .const (.int .i64 6)]) (ps := [(.one (.ptr 800 0)), (.one (.d (.bool true))), (.one (.d (.int .i64 6)))]) (bps := [.d (.ints .u8 b), .d (.int .i64 (rdQc l b q).1.f0), .d (.int .i64 (rdQc l b q).1.f1)]) (ss := []) (g := .func 142) (ok_impl_reader__must b (rdQc l b q).1 true 6 (by assumption) (by first | omega | assumption | (simp only [List.length_append] at *; omega))) rfl rfl (lt_ok rfl) rfl (by kernel_rfl) rfl (.cons (.bx) (.cons (.rd (.one (.d _))) (.cons (.rd (.one (.d _))) .nil))) rfl (.rd (.rd (.rd .nil))) rfl rfl (fun x hx => by have := hp x hx; omega) rfl) ?_
     refine TL.nil ?_
     refine T.seq ?_
     refine T.region ?_
     refine TL.cons rfl (Step.load_box_agg (n := 6) (qs := [.row 100500 [], .d (.int .i64 (rdQc l b q).2.f0), .d (.int .i64 (rdQc l b q).2.f1), .row 6043 [], .row 7043 [], .row 8043 []]) rfl rfl (lt_ok rfl) (by kernel_rfl) rfl rfl rfl rfl) ?_
     refine TL.cons rfl (Step.store_box (n := 6) (p := (.agg [.row 100500 [], .d (.int .i64 (rdQc l b q).2.f0), .d (.int .i64 (rdQc l b q).2.f1), .row 6043 [], .row 7043 [], .row 8043 []])) (qs := [.row 100500 [], .d (.int .i64 (rdQc l b q).2.f0), .d (.int .i64 (rdQc l b q).2.f1), .row 6043 [], .row 7043 [], .row 8043 []]) (ps' := [.row 100500 [], .d (.int .i64 (rdQc l b q).2.f0), .d (.int .i64 (rdQc l b q).2.f1), .row 6043 [], .row 7043 [], .row 8043 []]) rfl rfl (by kernel_rfl) rfl rfl rfl rfl rfl rfl (le_ok rfl) rfl) ?_
     refine TL.nil ?_
     refine T.ret ?_
     refine ⟨[.d (.ints .u8 b), .d (.int .i64 (rdMust (rdQc l b q).1 true 6).f0), .d (.int .i64 (rdMust (rdQc l b q).1 true 6).f1)], [(true, [.row 100500 [], .d (.int .i64 (rdQc l b q).2.f0), .d (.int .i64 (rdQc l b q).2.f1), .row 6043 [], .row 7043 [], .row 8043 []])], rfl, rfl, (.cons rfl .nil), rfl, [100500, 6043, 7043, 8043], (RetC.rd' rfl (RetC.rd' ?_ (RetC.rd' ?_ (RetC.own' rfl ?_ rfl (RetC.rd' ?_ (RetC.rd' ?_ (RetC.own' rfl ?_ rfl (RetC.own' rfl ?_ rfl (RetC.own' rfl ?_ rfl .nil)))))))))⟩ <;> (first | rfl | (congr 1; unfold rdProof; rw [← hx4, rdHs_out (by omega)]; first | (rw [rdProof2_yes (by omega)]; first | done | rfl) | (rw [rdProof2_no (by omega)]; first | done | rfl) | (rw [rdProof2_no (by omega), rdMust_ok rfl]; first | done | rfl)) | (simp only [D.size, List.length_map]; unfold rdProof; rw [← hx4, rdHs_out (by omega)]; first | (rw [rdProof2_yes (by omega)]; first | done | rfl) | (rw [rdProof2_no (by omega)]; first | done | rfl) | (rw [rdProof2_no (by omega), rdMust_ok rfl]; first | done | rfl)) | (congr 1; unfold rdProof; rw [← hx4, rdHs_out (by omega)]; rw [rdMust_ok rfl, rdProof2_no (by omega)]))
    ·
     refine TL.known 51 hb8 rfl ?_
     have hb8' := hb8
     replace hb8' := of_decide_eq_false hb8'
     refine TL.gyes 51 rfl rfl (lt_ok rfl) rfl (Step.load_box_agg (n := 6) (qs := [.row 100500 [], .d (.int .i64 (rdQc l b q).2.f0), .d (.int .i64 (rdQc l b q).2.f1), .row 6043 [], .row 7043 [], .row 8043 []]) rfl rfl (lt_ok rfl) (by kernel_rfl) rfl rfl rfl rfl) ?_
     refine TL.gyes 51 rfl rfl (lt_ok rfl) rfl (Step.call (f := 128) (xs := [.tmp 52]) (ps := [(.agg [.row 100500 [], .d (.int .i64 (rdQc l b q).2.f0), .d (.int .i64 (rdQc l b q).2.f1), .row 6043 [], .row 7043 [], .row 8043 []])]) false (g := .func 128) rfl rfl (lt_ok rfl) rfl (by kernel_rfl) rfl (.cons (.agg (.cons (.row rfl rfl rfl rfl) (.cons (.d _) (.cons (.d _) (.cons (.row rfl rfl rfl rfl) (.cons (.row rfl rfl rfl rfl) (.cons (.row rfl rfl rfl rfl) .nil))))))) .nil) (ok_impl_Proof__closes (⟨hs, (rdQc l b q).2⟩ : SProof) (by first | omega | assumption | (dsimp only; omega)) (by first | exact s0.1 | omega | (dsimp only; omega))) (.inr rfl) rfl (fun x hx => by have := hp x hx; omega) rfl) ?_
     refine TL.cons rfl (Step.pick (b := false) (p := (.one (.d (.bool (closes (⟨hs, (rdQc l b q).2⟩ : SProof)))))) rfl rfl (lt_ok rfl) rfl rfl) ?_
     refine TL.cons rfl (Step.callX2 (b := 800) (xs := [.tmp 45, .tmp 54, .const (.int .i64 6)]) (ps := [(.one (.ptr 800 0)), (.one (.d (.bool (closes (⟨hs, (rdQc l b q).2⟩ : SProof))))), (.one (.d (.int .i64 6)))]) (bps := [.d (.ints .u8 b), .d (.int .i64 (rdQc l b q).1.f0), .d (.int .i64 (rdQc l b q).1.f1)]) (ss := []) (g := .func 142) (ok_impl_reader__must b (rdQc l b q).1 (closes (⟨hs, (rdQc l b q).2⟩ : SProof)) 6 (by assumption) (by first | omega | assumption | (simp only [List.length_append] at *; omega))) rfl rfl (lt_ok rfl) rfl (by kernel_rfl) rfl (.cons (.bx) (.cons (.rd (.one (.d _))) (.cons (.rd (.one (.d _))) .nil))) rfl (.rd (.rd (.rd .nil))) rfl rfl (fun x hx => by have := hp x hx; omega) rfl) ?_
     refine TL.nil ?_
     refine T.seq ?_
     refine T.region ?_
     refine TL.cons rfl (Step.load_box_agg (n := 6) (qs := [.row 100500 [], .d (.int .i64 (rdQc l b q).2.f0), .d (.int .i64 (rdQc l b q).2.f1), .row 6043 [], .row 7043 [], .row 8043 []]) rfl rfl (lt_ok rfl) (by kernel_rfl) rfl rfl rfl rfl) ?_
     refine TL.cons rfl (Step.store_box (n := 6) (p := (.agg [.row 100500 [], .d (.int .i64 (rdQc l b q).2.f0), .d (.int .i64 (rdQc l b q).2.f1), .row 6043 [], .row 7043 [], .row 8043 []])) (qs := [.row 100500 [], .d (.int .i64 (rdQc l b q).2.f0), .d (.int .i64 (rdQc l b q).2.f1), .row 6043 [], .row 7043 [], .row 8043 []]) (ps' := [.row 100500 [], .d (.int .i64 (rdQc l b q).2.f0), .d (.int .i64 (rdQc l b q).2.f1), .row 6043 [], .row 7043 [], .row 8043 []]) rfl rfl (by kernel_rfl) rfl rfl rfl rfl rfl rfl (le_ok rfl) rfl) ?_
     refine TL.nil ?_
     refine T.ret ?_
     refine ⟨[.d (.ints .u8 b), .d (.int .i64 (rdMust (rdQc l b q).1 (closes (⟨hs, (rdQc l b q).2⟩ : SProof)) 6).f0), .d (.int .i64 (rdMust (rdQc l b q).1 (closes (⟨hs, (rdQc l b q).2⟩ : SProof)) 6).f1)], [(true, [.row 100500 [], .d (.int .i64 (rdQc l b q).2.f0), .d (.int .i64 (rdQc l b q).2.f1), .row 6043 [], .row 7043 [], .row 8043 []])], rfl, rfl, (.cons rfl .nil), rfl, [100500, 6043, 7043, 8043], (RetC.rd' rfl (RetC.rd' ?_ (RetC.rd' ?_ (RetC.own' rfl ?_ rfl (RetC.rd' ?_ (RetC.rd' ?_ (RetC.own' rfl ?_ rfl (RetC.own' rfl ?_ rfl (RetC.own' rfl ?_ rfl .nil)))))))))⟩ <;> (first | rfl | (congr 1; unfold rdProof; rw [← hx4, rdHs_out (by omega)]; first | (rw [rdProof2_yes (by omega)]; first | done | rfl) | (rw [rdProof2_no (by omega)]; first | done | rfl) | (rw [rdProof2_no (by omega), rdMust_ok rfl]; first | done | rfl)) | (simp only [D.size, List.length_map]; unfold rdProof; rw [← hx4, rdHs_out (by omega)]; first | (rw [rdProof2_yes (by omega)]; first | done | rfl) | (rw [rdProof2_no (by omega)]; first | done | rfl) | (rw [rdProof2_no (by omega), rdMust_ok rfl]; first | done | rfl)) | (congr 1; unfold rdProof; rw [← hx4, rdHs_out (by omega)]; rw [rdMust_ok rfl, rdProof2_no (by omega)]))
  ·
   refine TL.known 24 hb2 rfl ?_
   have hb2' := hb2
   replace hb2' := of_decide_eq_false hb2'
   refine TL.goff 24 rfl rfl (lt_ok rfl) rfl rfl rfl (lt_ok rfl) ?_
   refine TL.goff 24 rfl rfl (lt_ok rfl) rfl rfl rfl (lt_ok rfl) ?_
   refine TL.goff 24 rfl rfl (lt_ok rfl) rfl rfl rfl (lt_ok rfl) ?_
   refine TL.goff 24 rfl rfl (lt_ok rfl) rfl rfl rfl (lt_ok rfl) ?_
   refine TL.goff 24 rfl rfl (lt_ok rfl) rfl rfl rfl (lt_ok rfl) ?_
   refine TL.cons rfl (Step.pick (b := false) (p := (.one (.d (.bool false)))) rfl rfl (lt_ok rfl) rfl rfl) ?_
   refine TL.nil ?_
   refine T.cond (b := false) rfl (fun h9_ => absurd h9_ (by simp)) (fun h9_ => ?_)
   refine T.exit ?_
   refine T.seq ?_
   refine T.region ?_
   refine TL.cons rfl (Step.load_box_agg (n := 5) (qs := [.d (.int .i64 l.f0), .d (.int .i64 l.f1), .d (.int .i64 l.f2), .d (.int .i64 l.f3), .d (.int .i64 l.f4)]) rfl rfl (lt_ok rfl) (by kernel_rfl) rfl rfl rfl rfl) ?_
   refine TL.cons rfl (Step.move (p := (.one (.ptr 800 0))) rfl rfl (lt_ok rfl) rfl) ?_
   have nn10 := @rdQc_sm l b q (by first | assumption | omega)
   have nn11 := @rdQc_ok l b q (by assumption)
   refine TL.cons rfl (Step.callX2 (b := 800) (xs := [.tmp 41, .tmp 42]) (ps := [(.agg [.d (.int .i64 l.f0), .d (.int .i64 l.f1), .d (.int .i64 l.f2), .d (.int .i64 l.f3), .d (.int .i64 l.f4)]), (.one (.ptr 800 0))]) (bps := [.d (.ints .u8 b), .d (.int .i64 q.f0), .d (.int .i64 q.f1)]) (ss := []) (g := .func 89) (ok_impl_readQc b q l (by assumption) (by first | omega | assumption | (simp only [List.length_append] at *; omega))) rfl rfl (lt_ok rfl) rfl (by kernel_rfl) rfl (.cons (.rd (.agg (.cons (.d _) (.cons (.d _) (.cons (.d _) (.cons (.d _) (.cons (.d _) .nil))))))) (.cons (.bx) .nil)) rfl (.rd (.rd (.rd .nil))) rfl rfl (fun x hx => by have := hp x hx; omega) rfl) ?_
   refine TL.cons rfl (Step.fieldAddr (q := 0) (off := 1) (n := 5) (one := false) rfl rfl (lt_ok rfl) (by kernel_rfl) (Nat.succ_ne_zero _) rfl) ?_
   refine TL.cons rfl (Step.store_box (n := 5) (p := (.agg [.d (.int .i64 (rdQc l b q).2.f0), .d (.int .i64 (rdQc l b q).2.f1), .row 6043 [], .row 7043 [], .row 8043 []])) (qs := [.d (.int .i64 (rdQc l b q).2.f0), .d (.int .i64 (rdQc l b q).2.f1), .row 6043 [], .row 7043 [], .row 8043 []]) (ps' := [.row 100500 [], .d (.int .i64 (rdQc l b q).2.f0), .d (.int .i64 (rdQc l b q).2.f1), .row 6043 [], .row 7043 [], .row 8043 []]) rfl rfl (by kernel_rfl) rfl rfl rfl rfl rfl rfl (le_ok rfl) rfl) ?_
   refine TL.nil ?_
   refine T.seq ?_
   refine T.region ?_
   refine TL.cons rfl (Step.move (p := (.one (.ptr 800 0))) rfl rfl (lt_ok rfl) rfl) ?_
   refine TL.cons rfl (Step.move (p := (.one (.ptr 800 0))) rfl rfl (lt_ok rfl) rfl) ?_
   refine TL.cons rfl (Step.nilCheck rfl rfl (lt_ok rfl) rfl) ?_
   refine TL.cons rfl (Step.fieldAddr (q := 0) (off := 2) (n := 1) (one := true) rfl rfl (lt_ok rfl) (by kernel_rfl) (Nat.succ_ne_zero _) rfl) ?_
   refine TL.cons rfl (Step.load_box (c := .d (.int .i64 (rdQc l b q).1.f1)) rfl rfl (lt_ok rfl) (by kernel_rfl) rfl rfl rfl) ?_
   refine TL.cons rfl (Step.bin rfl rfl (lt_ok rfl) rfl rfl (Bin.neq (k := .i64) (a := (rdQc l b q).1.f1) (b := 0))) ?_
   refine TL.cons rfl (Step.move (p := (.one (.d (.bool (decide ((rdQc l b q).1.f1 ≠ 0)))))) rfl rfl (lt_ok rfl) rfl) ?_
   rcases Bool.eq_false_or_eq_true (decide ((rdQc l b q).1.f1 ≠ 0)) with hb12 | hb12
   ·
    refine TL.known 51 hb12 rfl ?_
    have hb12' := hb12
    replace hb12' := of_decide_eq_true hb12'
    refine TL.goff 51 rfl rfl (lt_ok rfl) rfl rfl rfl (lt_ok rfl) ?_
    refine TL.goff 51 rfl rfl (lt_ok rfl) rfl rfl rfl (lt_ok rfl) ?_
    refine TL.cons rfl (Step.pick (b := true) (p := (.one (.d (.bool true)))) rfl rfl (lt_ok rfl) rfl rfl) ?_
    refine TL.cons rfl (Step.callX2 (b := 800) (xs := [.tmp 45, .tmp 54, .const (.int .i64 6)]) (ps := [(.one (.ptr 800 0)), (.one (.d (.bool true))), (.one (.d (.int .i64 6)))]) (bps := [.d (.ints .u8 b), .d (.int .i64 (rdQc l b q).1.f0), .d (.int .i64 (rdQc l b q).1.f1)]) (ss := []) (g := .func 142) (ok_impl_reader__must b (rdQc l b q).1 true 6 (by assumption) (by first | omega | assumption | (simp only [List.length_append] at *; omega))) rfl rfl (lt_ok rfl) rfl (by kernel_rfl) rfl (.cons (.bx) (.cons (.rd (.one (.d _))) (.cons (.rd (.one (.d _))) .nil))) rfl (.rd (.rd (.rd .nil))) rfl rfl (fun x hx => by have := hp x hx; omega) rfl) ?_
    refine TL.nil ?_
    refine T.seq ?_
    refine T.region ?_
    refine TL.cons rfl (Step.load_box_agg (n := 6) (qs := [.row 100500 [], .d (.int .i64 (rdQc l b q).2.f0), .d (.int .i64 (rdQc l b q).2.f1), .row 6043 [], .row 7043 [], .row 8043 []]) rfl rfl (lt_ok rfl) (by kernel_rfl) rfl rfl rfl rfl) ?_
    refine TL.cons rfl (Step.store_box (n := 6) (p := (.agg [.row 100500 [], .d (.int .i64 (rdQc l b q).2.f0), .d (.int .i64 (rdQc l b q).2.f1), .row 6043 [], .row 7043 [], .row 8043 []])) (qs := [.row 100500 [], .d (.int .i64 (rdQc l b q).2.f0), .d (.int .i64 (rdQc l b q).2.f1), .row 6043 [], .row 7043 [], .row 8043 []]) (ps' := [.row 100500 [], .d (.int .i64 (rdQc l b q).2.f0), .d (.int .i64 (rdQc l b q).2.f1), .row 6043 [], .row 7043 [], .row 8043 []]) rfl rfl (by kernel_rfl) rfl rfl rfl rfl rfl rfl (le_ok rfl) rfl) ?_
    refine TL.nil ?_
    refine T.ret ?_
    refine ⟨[.d (.ints .u8 b), .d (.int .i64 (rdMust (rdQc l b q).1 true 6).f0), .d (.int .i64 (rdMust (rdQc l b q).1 true 6).f1)], [(true, [.row 100500 [], .d (.int .i64 (rdQc l b q).2.f0), .d (.int .i64 (rdQc l b q).2.f1), .row 6043 [], .row 7043 [], .row 8043 []])], rfl, rfl, (.cons rfl .nil), rfl, [100500, 6043, 7043, 8043], (RetC.rd' rfl (RetC.rd' ?_ (RetC.rd' ?_ (RetC.own' rfl ?_ rfl (RetC.rd' ?_ (RetC.rd' ?_ (RetC.own' rfl ?_ rfl (RetC.own' rfl ?_ rfl (RetC.own' rfl ?_ rfl .nil)))))))))⟩ <;> (first | rfl | (congr 1; unfold rdProof; rw [← hx4, rdHs_out (by omega)]; first | (rw [rdProof2_yes (by omega)]; first | done | rfl) | (rw [rdProof2_no (by omega)]; first | done | rfl) | (rw [rdProof2_no (by omega), rdMust_ok rfl]; first | done | rfl)) | (simp only [D.size, List.length_map]; unfold rdProof; rw [← hx4, rdHs_out (by omega)]; first | (rw [rdProof2_yes (by omega)]; first | done | rfl) | (rw [rdProof2_no (by omega)]; first | done | rfl) | (rw [rdProof2_no (by omega), rdMust_ok rfl]; first | done | rfl)) | (congr 1; unfold rdProof; rw [← hx4, rdHs_out (by omega)]; rw [rdMust_ok rfl, rdProof2_no (by omega)]))
   ·
    refine TL.known 51 hb12 rfl ?_
    have hb12' := hb12
    replace hb12' := of_decide_eq_false hb12'
    refine TL.gyes 51 rfl rfl (lt_ok rfl) rfl (Step.load_box_agg (n := 6) (qs := [.row 100500 [], .d (.int .i64 (rdQc l b q).2.f0), .d (.int .i64 (rdQc l b q).2.f1), .row 6043 [], .row 7043 [], .row 8043 []]) rfl rfl (lt_ok rfl) (by kernel_rfl) rfl rfl rfl rfl) ?_
    refine TL.gyes 51 rfl rfl (lt_ok rfl) rfl (Step.call (f := 128) (xs := [.tmp 52]) (ps := [(.agg [.row 100500 [], .d (.int .i64 (rdQc l b q).2.f0), .d (.int .i64 (rdQc l b q).2.f1), .row 6043 [], .row 7043 [], .row 8043 []])]) false (g := .func 128) rfl rfl (lt_ok rfl) rfl (by kernel_rfl) rfl (.cons (.agg (.cons (.row rfl rfl rfl rfl) (.cons (.d _) (.cons (.d _) (.cons (.row rfl rfl rfl rfl) (.cons (.row rfl rfl rfl rfl) (.cons (.row rfl rfl rfl rfl) .nil))))))) .nil) (ok_impl_Proof__closes (⟨hs, (rdQc l b q).2⟩ : SProof) (by first | omega | assumption | (dsimp only; omega)) (by first | exact s0.1 | omega | (dsimp only; omega))) (.inr rfl) rfl (fun x hx => by have := hp x hx; omega) rfl) ?_
    refine TL.cons rfl (Step.pick (b := false) (p := (.one (.d (.bool (closes (⟨hs, (rdQc l b q).2⟩ : SProof)))))) rfl rfl (lt_ok rfl) rfl rfl) ?_
    refine TL.cons rfl (Step.callX2 (b := 800) (xs := [.tmp 45, .tmp 54, .const (.int .i64 6)]) (ps := [(.one (.ptr 800 0)), (.one (.d (.bool (closes (⟨hs, (rdQc l b q).2⟩ : SProof))))), (.one (.d (.int .i64 6)))]) (bps := [.d (.ints .u8 b), .d (.int .i64 (rdQc l b q).1.f0), .d (.int .i64 (rdQc l b q).1.f1)]) (ss := []) (g := .func 142) (ok_impl_reader__must b (rdQc l b q).1 (closes (⟨hs, (rdQc l b q).2⟩ : SProof)) 6 (by assumption) (by first | omega | assumption | (simp only [List.length_append] at *; omega))) rfl rfl (lt_ok rfl) rfl (by kernel_rfl) rfl (.cons (.bx) (.cons (.rd (.one (.d _))) (.cons (.rd (.one (.d _))) .nil))) rfl (.rd (.rd (.rd .nil))) rfl rfl (fun x hx => by have := hp x hx; omega) rfl) ?_
    refine TL.nil ?_
    refine T.seq ?_
    refine T.region ?_
    refine TL.cons rfl (Step.load_box_agg (n := 6) (qs := [.row 100500 [], .d (.int .i64 (rdQc l b q).2.f0), .d (.int .i64 (rdQc l b q).2.f1), .row 6043 [], .row 7043 [], .row 8043 []]) rfl rfl (lt_ok rfl) (by kernel_rfl) rfl rfl rfl rfl) ?_
    refine TL.cons rfl (Step.store_box (n := 6) (p := (.agg [.row 100500 [], .d (.int .i64 (rdQc l b q).2.f0), .d (.int .i64 (rdQc l b q).2.f1), .row 6043 [], .row 7043 [], .row 8043 []])) (qs := [.row 100500 [], .d (.int .i64 (rdQc l b q).2.f0), .d (.int .i64 (rdQc l b q).2.f1), .row 6043 [], .row 7043 [], .row 8043 []]) (ps' := [.row 100500 [], .d (.int .i64 (rdQc l b q).2.f0), .d (.int .i64 (rdQc l b q).2.f1), .row 6043 [], .row 7043 [], .row 8043 []]) rfl rfl (by kernel_rfl) rfl rfl rfl rfl rfl rfl (le_ok rfl) rfl) ?_
    refine TL.nil ?_
    refine T.ret ?_
    refine ⟨[.d (.ints .u8 b), .d (.int .i64 (rdMust (rdQc l b q).1 (closes (⟨hs, (rdQc l b q).2⟩ : SProof)) 6).f0), .d (.int .i64 (rdMust (rdQc l b q).1 (closes (⟨hs, (rdQc l b q).2⟩ : SProof)) 6).f1)], [(true, [.row 100500 [], .d (.int .i64 (rdQc l b q).2.f0), .d (.int .i64 (rdQc l b q).2.f1), .row 6043 [], .row 7043 [], .row 8043 []])], rfl, rfl, (.cons rfl .nil), rfl, [100500, 6043, 7043, 8043], (RetC.rd' rfl (RetC.rd' ?_ (RetC.rd' ?_ (RetC.own' rfl ?_ rfl (RetC.rd' ?_ (RetC.rd' ?_ (RetC.own' rfl ?_ rfl (RetC.own' rfl ?_ rfl (RetC.own' rfl ?_ rfl .nil)))))))))⟩ <;> (first | rfl | (congr 1; unfold rdProof; rw [← hx4, rdHs_out (by omega)]; first | (rw [rdProof2_yes (by omega)]; first | done | rfl) | (rw [rdProof2_no (by omega)]; first | done | rfl) | (rw [rdProof2_no (by omega), rdMust_ok rfl]; first | done | rfl)) | (simp only [D.size, List.length_map]; unfold rdProof; rw [← hx4, rdHs_out (by omega)]; first | (rw [rdProof2_yes (by omega)]; first | done | rfl) | (rw [rdProof2_no (by omega)]; first | done | rfl) | (rw [rdProof2_no (by omega), rdMust_ok rfl]; first | done | rfl)) | (congr 1; unfold rdProof; rw [← hx4, rdHs_out (by omega)]; rw [rdMust_ok rfl, rdProof2_no (by omega)]))
end Go.Proofs.Ytlcmflenbddliaa.Rf
