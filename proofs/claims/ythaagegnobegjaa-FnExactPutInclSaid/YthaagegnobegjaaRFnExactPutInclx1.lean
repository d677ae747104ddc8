/- The functions that FnExactPutIncl calls, each held to what it answers. Printed by a program of this session; Lean checks it. -/
import Derived.Test.YthaagegnobegjaaProg
import Derived.Test.YthaagegnobegjaaRf24
import Derived.Test.YthaagegnobegjaaRFnExactPutInclx0
namespace Go.Proofs.Ythaagegnobegjaa.Rf
open Go.RowKit
set_option linter.unusedVariables false
set_option linter.unnecessarySimpa false
set_option linter.unusedSimpArgs false
set_option maxRecDepth 100000
set_option maxHeartbeats 4000000
theorem ok_impl_writer__raw (b : List Int) (x : List Int) (h0_ : b.length ≤ 17592186044416) (h1_ : x.length ≤ 17592186044416) : BX Try.prog 111 [.bx, .rd (.one (.ints .u8 x))] 136 [.own 5 (.ints .u8 b)] [.own 5 (.ints .u8 (b ++ x))] [] := by
 refine BX.intro Try.func111 rfl 13 rfl (le_ok rfl) (le_ok rfl) fun w Z IX pin hp => ?_
 refine T.bndRow 900 rfl fun hb_900 => ?_
 simp only [D.size, List.length_map] at hb_900
 refine T.bnd 1 0 rfl rfl fun hb_1_0 => ?_
 simp only [D.size, List.length_map] at hb_1_0
 refine T.region ?_
 refine TL.cons rfl (Step.move (p := (.one (.ptr 800 0))) rfl rfl (lt_ok rfl) rfl) ?_
 refine TL.cons rfl (Step.move (p := (.one (.ptr 800 0))) rfl rfl (lt_ok rfl) rfl) ?_
 refine TL.cons rfl (Step.nilCheck rfl rfl (lt_ok rfl) rfl) ?_
 refine TL.cons rfl (Step.fieldAddr (q := 0) (off := 0) (n := 1) (one := true) rfl rfl (lt_ok rfl) (by kernel_rfl) (Nat.succ_ne_zero _) rfl) ?_
 refine TL.cons rfl (Step.load_box (c := .row 900 []) rfl rfl (lt_ok rfl) (by kernel_rfl) rfl rfl rfl) ?_
 refine TL.cons rfl (Step.move (p := (.one (.d (.ints .u8 x)))) rfl rfl (lt_ok rfl) rfl) ?_
 refine TL.cons rfl (Step.append (e := 5) (z := 1) (by_ := 1) (d := (.ints .u8 b)) (dy := (.ints .u8 x)) (d' := (.ints .u8 (b ++ x))) (ss := []) rfl rfl (lt_ok rfl) (by kernel_rfl) rfl rfl rfl (lt_ok rfl) rfl (.froz rfl (by simp [D.flat, D.val])) (by simp) rfl (by simp only [D.size, List.length_map]; first | omega | (simp; omega) | (simp only [List.length_append] at *; omega)) (by simp only [D.size, List.length_map]; first | omega | (simp; omega) | (simp only [List.length_append] at *; omega)) (fun x hx => by have := hp x hx; omega)) ?_
 refine TL.cons rfl (Step.nilCheck rfl rfl (lt_ok rfl) rfl) ?_
 refine TL.cons rfl (Step.fieldAddr (q := 0) (off := 0) (n := 1) (one := true) rfl rfl (lt_ok rfl) (by kernel_rfl) (Nat.succ_ne_zero _) rfl) ?_
 refine TL.cons rfl (Step.store_box (n := 1) (p := (.one (.row 900 []))) (qs := [.row 900 []]) (ps' := [.row 900 []]) rfl rfl (by kernel_rfl) rfl rfl rfl rfl rfl rfl (le_ok rfl) rfl) ?_
 refine TL.nil ?_
 exact ⟨[.row 900 []], [], rfl, rfl, .nil, rfl, [900], (RetC.own' rfl (by rfl) rfl .nil)⟩
theorem ok_impl_areHashes (l : List (List Int)) : RO Try.prog 145 [.one (.bss l)] [(false, [.rd (.bool (hashes l))])] := by
 refine RO.intro Try.func145 rfl 15 rfl (le_ok rfl) fun w Z => ?_
 refine T.bnd 0 0 rfl rfl fun hb_0_0 => ?_
 simp only [D.size, List.length_map] at hb_0_0
 refine T.seq ?_
 refine T.region ?_
 refine TL.cons rfl (Step.assign (p := (.one (.d (.bool false)))) rfl rfl (lt_ok rfl) rfl) ?_
 refine TL.nil ?_
 refine T.seq ?_
 refine T.seq ?_
 refine T.region ?_
 refine TL.cons rfl (Step.move (p := (.one (.d (.bss l)))) rfl rfl (lt_ok rfl) rfl) ?_
 refine TL.cons rfl (Step.len (e := 22) (z := 1) (d := (.bss l)) rfl rfl (lt_ok rfl) (by kernel_rfl) rfl rfl) ?_
 refine TL.cons rfl (Step.move (p := (.one (.d (.int .i64 0)))) rfl rfl (lt_ok rfl) rfl) ?_
 refine TL.nil ?_
 refine T.block ?_
 refine T.loop (ι := Nat) (fun xx_ => { tm := [(5, (.one (.d (.bss l)))), (6, (.one (.d (.int .i64 (l.length : Int))))), (7, (.one (.d (.int .i64 (xx_ : Int)))))], rows := [], boxes := [] }) (fun xx_ => xx_ ≤ l.length ∧ hashes (l.take xx_) = true) (fun xx_ => l.length - xx_) 0 ?_ ?_ ?_
 · exact Env.le_mk ⟨rfl, rfl, by first | rfl | (simp; done) | (congr 3; omega), trivial⟩ trivial trivial
 · (refine ⟨Nat.zero_le _, by rw [List.take_zero]; rfl⟩)
 ·
  intro i hx
  try dsimp only at hx ⊢
  obtain ⟨hx1, hx2⟩ := hx
  refine T.seq ?_
  refine T.region ?_
  refine TL.cons rfl (Step.bin rfl rfl (lt_ok rfl) rfl rfl (Bin.lss (k := .i64) (a := (i : Int)) (b := (l.length : Int)))) ?_
  refine TL.nil ?_
  refine T.seq ?_
  refine T.cond (b := decide ((i : Int) < (l.length : Int))) rfl (fun h1 => ?_) (fun h1 => ?_)
  ·
   replace h1 := of_decide_eq_true h1
   refine T.skip ?_
   refine T.seq ?_
   refine T.block ?_
   refine T.seq ?_
   refine T.region ?_
   refine TL.cons rfl (Step.index (e := 22) (z := 1) (i := (i : Int)) rfl rfl (lt_ok rfl) (by kernel_rfl) rfl rfl rfl (lt_ok rfl) rfl (by first | omega | (simp; omega)) (by simp only [D.size]; first | omega | (simp; omega))) ?_
   refine TL.cons rfl (Step.load (e := (.ints .u8 (l.getD i []))) rfl rfl (lt_ok rfl) (by kernel_rfl) rfl rfl) ?_
   refine TL.cons rfl (Step.assign (p := (.one (.d (.ints .u8 (l.getD i []))))) rfl rfl (lt_ok rfl) rfl) ?_
   refine TL.nil ?_
   refine T.seq ?_
   refine T.region ?_
   refine TL.cons rfl (Step.move (p := (.one (.d (.ints .u8 (l.getD i []))))) rfl rfl (lt_ok rfl) rfl) ?_
   refine TL.cons rfl (Step.len (e := 5) (z := 1) (d := (.ints .u8 (l.getD i []))) rfl rfl (lt_ok rfl) (by kernel_rfl) rfl rfl) ?_
   refine TL.cons rfl (Step.bin rfl rfl (lt_ok rfl) rfl rfl (Bin.neq (k := .i64) (a := ((l.getD i []).length : Int)) (b := 32))) ?_
   refine TL.nil ?_
   refine T.cond (b := decide (((l.getD i []).length : Int) ≠ 32)) rfl (fun h2 => ?_) (fun h2 => ?_)
   ·
    replace h2 := of_decide_eq_true h2
    refine T.seq ?_
    refine T.region ?_
    refine TL.cons rfl (Step.assign (p := (.one (.d (.bool false)))) rfl rfl (lt_ok rfl) rfl) ?_
    refine TL.nil ?_
    refine T.ret ?_
    exact ⟨[(false, [.d (.bool false)])], (.cons rfl .nil), rfl, [], (RetC.rd' (by (congr 1; symm; first | (exact hashes_no (i := i) (by omega) (by omega)) | (rw [List.take_of_length_le (by omega)] at hx2; exact hx2))) .nil)⟩
   ·
    replace h2 := of_decide_eq_false h2
    refine T.skip ?_
    refine T.region ?_
    refine TL.cons rfl (Step.bin (r := .int .i64 ((i : Int) + 1)) rfl rfl (lt_ok rfl) rfl rfl (Bin.add (a := (i : Int)) (b := 1) (by first | exact wrap_ok (by first | omega | (simp; omega)) (by first | omega | (simp; omega)) | rfl))) ?_
    refine TL.cons rfl (Step.move (p := (.one (.d (.int .i64 ((i : Int) + 1))))) rfl rfl (lt_ok rfl) rfl) ?_
    refine TL.nil ?_
    exact ⟨i + 1, by (refine ⟨by omega, hashes_step (by omega) hx2 (by omega)⟩), by first | omega | (dsimp only; omega), Env.le_mk ⟨rfl, rfl, by first | rfl | (simp; done) | (congr 3; omega), trivial⟩ trivial trivial⟩
  ·
   replace h1 := of_decide_eq_false h1
   refine T.exit ?_
   refine T.seq ?_
   refine T.region ?_
   refine TL.cons rfl (Step.assign (p := (.one (.d (.bool true)))) rfl rfl (lt_ok rfl) rfl) ?_
   refine TL.nil ?_
   refine T.ret ?_
   exact ⟨[(false, [.d (.bool true)])], (.cons rfl .nil), rfl, [], (RetC.rd' (by (congr 1; symm; first | (exact hashes_no (i := i) (by omega) (by omega)) | (rw [List.take_of_length_le (by omega)] at hx2; exact hx2))) .nil)⟩
theorem ok_impl_LimitsOk (l : SLimits) : RO Try.prog 146 [.agg l.cells] [(false, [.rd (.bool (limOk l))])] := by
 refine RO.intro Try.func146 rfl 26 rfl (le_ok rfl) fun w Z => ?_
 refine T.seq ?_
 refine T.region ?_
 refine TL.cons rfl (Step.box (p := (.agg [.d (.int .i64 l.f0), .d (.int .i64 l.f1), .d (.int .i64 l.f2), .d (.int .i64 l.f3), .d (.int .i64 l.f4)])) (ps := [.d (.int .i64 l.f0), .d (.int .i64 l.f1), .d (.int .i64 l.f2), .d (.int .i64 l.f3), .d (.int .i64 l.f4)]) rfl rfl (lt_ok rfl) rfl rfl rfl rfl rfl) ?_
 refine TL.cons rfl (Step.assign (p := (.one (.d (.bool false)))) rfl rfl (lt_ok rfl) rfl) ?_
 refine TL.nil ?_
 refine T.seq ?_
 refine T.region ?_
 refine TL.cons rfl (Step.fieldAddr (q := 0) (off := 0) (n := 1) (one := true) rfl rfl (lt_ok rfl) (by kernel_rfl) (Nat.succ_ne_zero _) rfl) ?_
 refine TL.cons rfl (Step.load_box (c := .d (.int .i64 l.f0)) rfl rfl (lt_ok rfl) (by kernel_rfl) rfl rfl rfl) ?_
 refine TL.cons rfl (Step.call (f := 144) (xs := [.tmp 4, .const (.int .i64 1), .const (.int .i64 10)]) (ps := [(.one (.d (.int .i64 l.f0))), (.one (.d (.int .i64 1))), (.one (.d (.int .i64 10)))]) false (g := .func 144) rfl rfl (lt_ok rfl) rfl (by kernel_rfl) rfl (.cons (.one (.d _)) (.cons (.one (.d _)) (.cons (.one (.d _)) .nil))) (ok_impl_within l.f0 1 10) (.inr rfl) rfl (by simp) rfl) ?_
 refine TL.cons rfl (Step.move (p := (.one (.d (.bool (decide (1 ≤ l.f0 ∧ l.f0 ≤ 10)))))) rfl rfl (lt_ok rfl) rfl) ?_
 rcases Bool.eq_false_or_eq_true (decide (1 ≤ l.f0 ∧ l.f0 ≤ 10)) with hb1 | hb1
 ·
  refine TL.known 6 hb1 rfl ?_
  refine TL.gyes 6 rfl rfl (lt_ok rfl) rfl (Step.fieldAddr (q := 0) (off := 1) (n := 1) (one := true) rfl rfl (lt_ok rfl) (by kernel_rfl) (Nat.succ_ne_zero _) rfl) ?_
  refine TL.gyes 6 rfl rfl (lt_ok rfl) rfl (Step.load_box (c := .d (.int .i64 l.f1)) rfl rfl (lt_ok rfl) (by kernel_rfl) rfl rfl rfl) ?_
  refine TL.gyes 6 rfl rfl (lt_ok rfl) rfl (Step.call (f := 144) (xs := [.tmp 8, .const (.int .i64 0), .const (.int .i64 40)]) (ps := [(.one (.d (.int .i64 l.f1))), (.one (.d (.int .i64 0))), (.one (.d (.int .i64 40)))]) false (g := .func 144) rfl rfl (lt_ok rfl) rfl (by kernel_rfl) rfl (.cons (.one (.d _)) (.cons (.one (.d _)) (.cons (.one (.d _)) .nil))) (ok_impl_within l.f1 0 40) (.inr rfl) rfl (by simp) rfl) ?_
  refine TL.cons rfl (Step.pick (b := true) (p := (.one (.d (.bool (decide (0 ≤ l.f1 ∧ l.f1 ≤ 40)))))) rfl rfl (lt_ok rfl) rfl rfl) ?_
  refine TL.cons rfl (Step.move (p := (.one (.d (.bool (decide (0 ≤ l.f1 ∧ l.f1 ≤ 40)))))) rfl rfl (lt_ok rfl) rfl) ?_
  rcases Bool.eq_false_or_eq_true (decide (0 ≤ l.f1 ∧ l.f1 ≤ 40)) with hb2 | hb2
  ·
   refine TL.known 11 hb2 rfl ?_
   refine TL.gyes 11 rfl rfl (lt_ok rfl) rfl (Step.fieldAddr (q := 0) (off := 2) (n := 1) (one := true) rfl rfl (lt_ok rfl) (by kernel_rfl) (Nat.succ_ne_zero _) rfl) ?_
   refine TL.gyes 11 rfl rfl (lt_ok rfl) rfl (Step.load_box (c := .d (.int .i64 l.f2)) rfl rfl (lt_ok rfl) (by kernel_rfl) rfl rfl rfl) ?_
   refine TL.gyes 11 rfl rfl (lt_ok rfl) rfl (Step.call (f := 144) (xs := [.tmp 13, .const (.int .i64 0), .const (.int .i64 8)]) (ps := [(.one (.d (.int .i64 l.f2))), (.one (.d (.int .i64 0))), (.one (.d (.int .i64 8)))]) false (g := .func 144) rfl rfl (lt_ok rfl) rfl (by kernel_rfl) rfl (.cons (.one (.d _)) (.cons (.one (.d _)) (.cons (.one (.d _)) .nil))) (ok_impl_within l.f2 0 8) (.inr rfl) rfl (by simp) rfl) ?_
   refine TL.cons rfl (Step.pick (b := true) (p := (.one (.d (.bool (decide (0 ≤ l.f2 ∧ l.f2 ≤ 8)))))) rfl rfl (lt_ok rfl) rfl rfl) ?_
   refine TL.cons rfl (Step.move (p := (.one (.d (.bool (decide (0 ≤ l.f2 ∧ l.f2 ≤ 8)))))) rfl rfl (lt_ok rfl) rfl) ?_
   rcases Bool.eq_false_or_eq_true (decide (0 ≤ l.f2 ∧ l.f2 ≤ 8)) with hb3 | hb3
   ·
    refine TL.known 16 hb3 rfl ?_
    refine TL.gyes 16 rfl rfl (lt_ok rfl) rfl (Step.fieldAddr (q := 0) (off := 3) (n := 1) (one := true) rfl rfl (lt_ok rfl) (by kernel_rfl) (Nat.succ_ne_zero _) rfl) ?_
    refine TL.gyes 16 rfl rfl (lt_ok rfl) rfl (Step.load_box (c := .d (.int .i64 l.f3)) rfl rfl (lt_ok rfl) (by kernel_rfl) rfl rfl rfl) ?_
    refine TL.gyes 16 rfl rfl (lt_ok rfl) rfl (Step.call (f := 144) (xs := [.tmp 18, .const (.int .i64 1), .const (.int .i64 4000)]) (ps := [(.one (.d (.int .i64 l.f3))), (.one (.d (.int .i64 1))), (.one (.d (.int .i64 4000)))]) false (g := .func 144) rfl rfl (lt_ok rfl) rfl (by kernel_rfl) rfl (.cons (.one (.d _)) (.cons (.one (.d _)) (.cons (.one (.d _)) .nil))) (ok_impl_within l.f3 1 4000) (.inr rfl) rfl (by simp) rfl) ?_
    refine TL.cons rfl (Step.pick (b := true) (p := (.one (.d (.bool (decide (1 ≤ l.f3 ∧ l.f3 ≤ 4000)))))) rfl rfl (lt_ok rfl) rfl rfl) ?_
    refine TL.cons rfl (Step.move (p := (.one (.d (.bool (decide (1 ≤ l.f3 ∧ l.f3 ≤ 4000)))))) rfl rfl (lt_ok rfl) rfl) ?_
    rcases Bool.eq_false_or_eq_true (decide (1 ≤ l.f3 ∧ l.f3 ≤ 4000)) with hb4 | hb4
    ·
     refine TL.known 21 hb4 rfl ?_
     refine TL.gyes 21 rfl rfl (lt_ok rfl) rfl (Step.fieldAddr (q := 0) (off := 4) (n := 1) (one := true) rfl rfl (lt_ok rfl) (by kernel_rfl) (Nat.succ_ne_zero _) rfl) ?_
     refine TL.gyes 21 rfl rfl (lt_ok rfl) rfl (Step.load_box (c := .d (.int .i64 l.f4)) rfl rfl (lt_ok rfl) (by kernel_rfl) rfl rfl rfl) ?_
     refine TL.gyes 21 rfl rfl (lt_ok rfl) rfl (Step.call (f := 144) (xs := [.tmp 23, .const (.int .i64 3), .const (.int .i64 5)]) (ps := [(.one (.d (.int .i64 l.f4))), (.one (.d (.int .i64 3))), (.one (.d (.int .i64 5)))]) false (g := .func 144) rfl rfl (lt_ok rfl) rfl (by kernel_rfl) rfl (.cons (.one (.d _)) (.cons (.one (.d _)) (.cons (.one (.d _)) .nil))) (ok_impl_within l.f4 3 5) (.inr rfl) rfl (by simp) rfl) ?_
     refine TL.cons rfl (Step.pick (b := true) (p := (.one (.d (.bool (decide (3 ≤ l.f4 ∧ l.f4 ≤ 5)))))) rfl rfl (lt_ok rfl) rfl rfl) ?_
     refine TL.cons rfl (Step.assign (p := (.one (.d (.bool (decide (3 ≤ l.f4 ∧ l.f4 ≤ 5)))))) rfl rfl (lt_ok rfl) rfl) ?_
     refine TL.nil ?_
     refine T.ret ?_
     exact ⟨[(false, [.d (.bool (decide (3 ≤ l.f4 ∧ l.f4 ≤ 5)))])], (.cons rfl .nil), rfl, [], (RetC.rd' (by first | rfl | (congr 1; symm; simp only [limOk, *, Bool.and_true, Bool.true_and, Bool.and_false, Bool.false_and, decide_true, decide_false, and_true, true_and, and_self, and_false, false_and, Bool.and_self, not_true, not_false, Bool.not_true, Bool.not_false, ge_iff_le, gt_iff_lt, if_true, if_false, Bool.false_eq_true, ite_true, ite_false, reduceIte]; done) | (congr 1; symm; simp_all [limOk]; done) | (congr 1; symm; simp_all [limOk]; omega)) .nil)⟩
    ·
     refine TL.known 21 hb4 rfl ?_
     refine TL.gno 21 rfl rfl (lt_ok rfl) rfl rfl rfl (lt_ok rfl) ?_
     refine TL.gno 21 rfl rfl (lt_ok rfl) rfl rfl rfl (lt_ok rfl) ?_
     refine TL.gno 21 rfl rfl (lt_ok rfl) rfl rfl rfl (lt_ok rfl) ?_
     refine TL.cons rfl (Step.pick (b := false) (p := (.one (.d (.bool false)))) rfl rfl (lt_ok rfl) rfl rfl) ?_
     refine TL.cons rfl (Step.assign (p := (.one (.d (.bool false)))) rfl rfl (lt_ok rfl) rfl) ?_
     refine TL.nil ?_
     refine T.ret ?_
     exact ⟨[(false, [.d (.bool false)])], (.cons rfl .nil), rfl, [], (RetC.rd' (by first | rfl | (congr 1; symm; simp only [limOk, *, Bool.and_true, Bool.true_and, Bool.and_false, Bool.false_and, decide_true, decide_false, and_true, true_and, and_self, and_false, false_and, Bool.and_self, not_true, not_false, Bool.not_true, Bool.not_false, ge_iff_le, gt_iff_lt, if_true, if_false, Bool.false_eq_true, ite_true, ite_false, reduceIte]; done) | (congr 1; symm; simp_all [limOk]; done) | (congr 1; symm; simp_all [limOk]; omega)) .nil)⟩
   ·
    refine TL.known 16 hb3 rfl ?_
    refine TL.gno 16 rfl rfl (lt_ok rfl) rfl rfl rfl (lt_ok rfl) ?_
    refine TL.gno 16 rfl rfl (lt_ok rfl) rfl rfl rfl (lt_ok rfl) ?_
    refine TL.gno 16 rfl rfl (lt_ok rfl) rfl rfl rfl (lt_ok rfl) ?_
    refine TL.cons rfl (Step.pick (b := false) (p := (.one (.d (.bool false)))) rfl rfl (lt_ok rfl) rfl rfl) ?_
    refine TL.cons rfl (Step.move (p := (.one (.d (.bool false)))) rfl rfl (lt_ok rfl) rfl) ?_
    refine TL.gno 21 rfl rfl (lt_ok rfl) rfl rfl rfl (lt_ok rfl) ?_
    refine TL.gno 21 rfl rfl (lt_ok rfl) rfl rfl rfl (lt_ok rfl) ?_
    refine TL.gno 21 rfl rfl (lt_ok rfl) rfl rfl rfl (lt_ok rfl) ?_
    refine TL.cons rfl (Step.pick (b := false) (p := (.one (.d (.bool false)))) rfl rfl (lt_ok rfl) rfl rfl) ?_
    refine TL.cons rfl (Step.assign (p := (.one (.d (.bool false)))) rfl rfl (lt_ok rfl) rfl) ?_
    refine TL.nil ?_
    refine T.ret ?_
    exact ⟨[(false, [.d (.bool false)])], (.cons rfl .nil), rfl, [], (RetC.rd' (by first | rfl | (congr 1; symm; simp only [limOk, *, Bool.and_true, Bool.true_and, Bool.and_false, Bool.false_and, decide_true, decide_false, and_true, true_and, and_self, and_false, false_and, Bool.and_self, not_true, not_false, Bool.not_true, Bool.not_false, ge_iff_le, gt_iff_lt, if_true, if_false, Bool.false_eq_true, ite_true, ite_false, reduceIte]; done) | (congr 1; symm; simp_all [limOk]; done) | (congr 1; symm; simp_all [limOk]; omega)) .nil)⟩
  ·
   refine TL.known 11 hb2 rfl ?_
   refine TL.gno 11 rfl rfl (lt_ok rfl) rfl rfl rfl (lt_ok rfl) ?_
   refine TL.gno 11 rfl rfl (lt_ok rfl) rfl rfl rfl (lt_ok rfl) ?_
   refine TL.gno 11 rfl rfl (lt_ok rfl) rfl rfl rfl (lt_ok rfl) ?_
   refine TL.cons rfl (Step.pick (b := false) (p := (.one (.d (.bool false)))) rfl rfl (lt_ok rfl) rfl rfl) ?_
   refine TL.cons rfl (Step.move (p := (.one (.d (.bool false)))) rfl rfl (lt_ok rfl) rfl) ?_
   refine TL.gno 16 rfl rfl (lt_ok rfl) rfl rfl rfl (lt_ok rfl) ?_
   refine TL.gno 16 rfl rfl (lt_ok rfl) rfl rfl rfl (lt_ok rfl) ?_
   refine TL.gno 16 rfl rfl (lt_ok rfl) rfl rfl rfl (lt_ok rfl) ?_
   refine TL.cons rfl (Step.pick (b := false) (p := (.one (.d (.bool false)))) rfl rfl (lt_ok rfl) rfl rfl) ?_
   refine TL.cons rfl (Step.move (p := (.one (.d (.bool false)))) rfl rfl (lt_ok rfl) rfl) ?_
   refine TL.gno 21 rfl rfl (lt_ok rfl) rfl rfl rfl (lt_ok rfl) ?_
   refine TL.gno 21 rfl rfl (lt_ok rfl) rfl rfl rfl (lt_ok rfl) ?_
   refine TL.gno 21 rfl rfl (lt_ok rfl) rfl rfl rfl (lt_ok rfl) ?_
   refine TL.cons rfl (Step.pick (b := false) (p := (.one (.d (.bool false)))) rfl rfl (lt_ok rfl) rfl rfl) ?_
   refine TL.cons rfl (Step.assign (p := (.one (.d (.bool false)))) rfl rfl (lt_ok rfl) rfl) ?_
   refine TL.nil ?_
   refine T.ret ?_
   exact ⟨[(false, [.d (.bool false)])], (.cons rfl .nil), rfl, [], (RetC.rd' (by first | rfl | (congr 1; symm; simp only [limOk, *, Bool.and_true, Bool.true_and, Bool.and_false, Bool.false_and, decide_true, decide_false, and_true, true_and, and_self, and_false, false_and, Bool.and_self, not_true, not_false, Bool.not_true, Bool.not_false, ge_iff_le, gt_iff_lt, if_true, if_false, Bool.false_eq_true, ite_true, ite_false, reduceIte]; done) | (congr 1; symm; simp_all [limOk]; done) | (congr 1; symm; simp_all [limOk]; omega)) .nil)⟩
 ·
  refine TL.known 6 hb1 rfl ?_
  refine TL.gno 6 rfl rfl (lt_ok rfl) rfl rfl rfl (lt_ok rfl) ?_
  refine TL.gno 6 rfl rfl (lt_ok rfl) rfl rfl rfl (lt_ok rfl) ?_
  refine TL.gno 6 rfl rfl (lt_ok rfl) rfl rfl rfl (lt_ok rfl) ?_
  refine TL.cons rfl (Step.pick (b := false) (p := (.one (.d (.bool false)))) rfl rfl (lt_ok rfl) rfl rfl) ?_
  refine TL.cons rfl (Step.move (p := (.one (.d (.bool false)))) rfl rfl (lt_ok rfl) rfl) ?_
  refine TL.gno 11 rfl rfl (lt_ok rfl) rfl rfl rfl (lt_ok rfl) ?_
  refine TL.gno 11 rfl rfl (lt_ok rfl) rfl rfl rfl (lt_ok rfl) ?_
  refine TL.gno 11 rfl rfl (lt_ok rfl) rfl rfl rfl (lt_ok rfl) ?_
  refine TL.cons rfl (Step.pick (b := false) (p := (.one (.d (.bool false)))) rfl rfl (lt_ok rfl) rfl rfl) ?_
  refine TL.cons rfl (Step.move (p := (.one (.d (.bool false)))) rfl rfl (lt_ok rfl) rfl) ?_
  refine TL.gno 16 rfl rfl (lt_ok rfl) rfl rfl rfl (lt_ok rfl) ?_
  refine TL.gno 16 rfl rfl (lt_ok rfl) rfl rfl rfl (lt_ok rfl) ?_
  refine TL.gno 16 rfl rfl (lt_ok rfl) rfl rfl rfl (lt_ok rfl) ?_
  refine TL.cons rfl (Step.pick (b := false) (p := (.one (.d (.bool false)))) rfl rfl (lt_ok rfl) rfl rfl) ?_
  refine TL.cons rfl (Step.move (p := (.one (.d (.bool false)))) rfl rfl (lt_ok rfl) rfl) ?_
  refine TL.gno 21 rfl rfl (lt_ok rfl) rfl rfl rfl (lt_ok rfl) ?_
  refine TL.gno 21 rfl rfl (lt_ok rfl) rfl rfl rfl (lt_ok rfl) ?_
  refine TL.gno 21 rfl rfl (lt_ok rfl) rfl rfl rfl (lt_ok rfl) ?_
  refine TL.cons rfl (Step.pick (b := false) (p := (.one (.d (.bool false)))) rfl rfl (lt_ok rfl) rfl rfl) ?_
  refine TL.cons rfl (Step.assign (p := (.one (.d (.bool false)))) rfl rfl (lt_ok rfl) rfl) ?_
  refine TL.nil ?_
  refine T.ret ?_
  exact ⟨[(false, [.d (.bool false)])], (.cons rfl .nil), rfl, [], (RetC.rd' (by first | rfl | (congr 1; symm; simp only [limOk, *, Bool.and_true, Bool.true_and, Bool.and_false, Bool.false_and, decide_true, decide_false, and_true, true_and, and_self, and_false, false_and, Bool.and_self, not_true, not_false, Bool.not_true, Bool.not_false, ge_iff_le, gt_iff_lt, if_true, if_false, Bool.false_eq_true, ite_true, ite_false, reduceIte]; done) | (congr 1; symm; simp_all [limOk]; done) | (congr 1; symm; simp_all [limOk]; omega)) .nil)⟩
theorem ok_impl_SplitAt (n : Int) (h0_ : n ≤ 9223372036854775807) : RO Try.prog 177 [.one (.int .i64 n)] [(false, [.rd (.int .i64 (splitAtT n))])] := by
 refine RO.intro Try.func177 rfl 14 rfl (le_ok rfl) fun w Z => ?_
 refine T.seq ?_
 refine T.region ?_
 refine TL.cons rfl (Step.assign (p := (.one (.d (.int .i64 0)))) rfl rfl (lt_ok rfl) rfl) ?_
 refine TL.nil ?_
 refine T.seq ?_
 refine T.seq ?_
 refine T.region ?_
 refine TL.cons rfl (Step.move (p := (.one (.d (.int .i64 n)))) rfl rfl (lt_ok rfl) rfl) ?_
 refine TL.cons rfl (Step.bin rfl rfl (lt_ok rfl) rfl rfl (Bin.lss (k := .i64) (a := n) (b := 2))) ?_
 refine TL.nil ?_
 refine T.cond (b := decide (n < 2)) rfl (fun h1 => ?_) (fun h1 => ?_)
 ·
  replace h1 := of_decide_eq_true h1
  refine T.seq ?_
  refine T.region ?_
  refine TL.cons rfl (Step.assign (p := (.one (.d (.int .i64 0)))) rfl rfl (lt_ok rfl) rfl) ?_
  refine TL.nil ?_
  refine T.ret ?_
  exact ⟨[(false, [.d (.int .i64 0)])], (.cons rfl .nil), rfl, [], (RetC.rd' (by (congr 1; unfold splitAtT; first | (rw [if_pos (by omega)]; done) | (rw [if_neg (by omega)]; rw [if_neg (by omega)] at hx4; exact hx4) | (rw [if_neg (by omega)]; omega))) .nil)⟩
 ·
  replace h1 := of_decide_eq_false h1
  refine T.skip ?_
  refine T.seq ?_
  refine T.region ?_
  refine TL.cons rfl (Step.assign (p := (.one (.d (.int .i64 1)))) rfl rfl (lt_ok rfl) rfl) ?_
  refine TL.nil ?_
  refine T.seq ?_
  refine T.block ?_
  refine T.loop (ι := Nat × Int) (fun xx_ => { tm := [(0, (.one (.d (.int .i64 n)))), (2, (.one (.d (.int .i64 0)))), (3, (.one (.d (.int .i64 (xx_.2)))))], rows := [], boxes := [] }) (fun xx_ => 1 ≤ (xx_.2) ∧ (xx_.2) < n ∧ n ≤ (xx_.2) + (xx_.1) ∧ splitGo (xx_.1) n (xx_.2) = splitAt n) (fun xx_ => (xx_.1)) (n.toNat, 1) ?_ ?_ ?_
  · exact Env.le_mk ⟨rfl, rfl, by first | rfl | (refine congrArg (fun n => PV.one (.d (.int .i64 n))) ?_; rfl), trivial⟩ trivial trivial
  · (dsimp only; refine ⟨by omega, by omega, by omega, rfl⟩)
  ·
   intro xx_ hx
   obtain ⟨d, x⟩ := xx_
   try dsimp only at hx ⊢
   obtain ⟨hx1, hx2, hx3, hx4⟩ := hx
   obtain ⟨d', rfl⟩ : ∃ d', d = d' + 1 := ⟨d - 1, by omega⟩
   unfold splitGo at hx4
   refine T.seq ?_
   refine T.seq ?_
   refine T.region ?_
   refine TL.cons rfl (Step.move (p := (.one (.d (.int .i64 x)))) rfl rfl (lt_ok rfl) rfl) ?_
   refine TL.cons rfl (Step.move (p := (.one (.d (.int .i64 n)))) rfl rfl (lt_ok rfl) rfl) ?_
   refine TL.cons rfl (Step.move (p := (.one (.d (.int .i64 x)))) rfl rfl (lt_ok rfl) rfl) ?_
   refine TL.cons rfl (Step.bin (r := .int .i64 (n - x)) rfl rfl (lt_ok rfl) rfl rfl (Bin.sub (a := n) (b := x) (by first | exact wrap_ok (by first | omega | (simp; omega)) (by first | omega | (simp; omega)) | rfl))) ?_
   refine TL.cons rfl (Step.bin rfl rfl (lt_ok rfl) rfl rfl (Bin.lss (k := .i64) (a := x) (b := (n - x)))) ?_
   refine TL.nil ?_
   refine T.cond (b := decide (x < (n - x))) rfl (fun h2 => ?_) (fun h2 => ?_)
   ·
    replace h2 := of_decide_eq_true h2
    refine T.skip ?_
    refine T.block ?_
    refine T.region ?_
    refine TL.cons rfl (Step.move (p := (.one (.d (.int .i64 x)))) rfl rfl (lt_ok rfl) rfl) ?_
    refine TL.cons rfl (Step.bin (r := .int .i64 (x * 2)) rfl rfl (lt_ok rfl) rfl rfl (Bin.mul (a := x) (b := 2) (by first | exact wrap_ok (by first | omega | (simp; omega)) (by first | omega | (simp; omega)) | rfl))) ?_
    refine TL.cons rfl (Step.assign (p := (.one (.d (.int .i64 (x * 2))))) rfl rfl (lt_ok rfl) rfl) ?_
    refine TL.nil ?_
    exact ⟨(d', x * 2), by (try dsimp only); (rw [if_pos (by omega)] at hx4; refine ⟨by omega, by omega, by omega, ?_⟩; first | exact hx4 | (rw [Int.mul_comm]; exact hx4)), by (dsimp only; omega), Env.le_mk ⟨rfl, rfl, by first | rfl | (refine congrArg (fun n => PV.one (.d (.int .i64 n))) ?_; rfl), trivial⟩ trivial trivial⟩
   ·
    replace h2 := of_decide_eq_false h2
    refine T.exit ?_
    refine T.seq ?_
    refine T.region ?_
    refine TL.cons rfl (Step.move (p := (.one (.d (.int .i64 x)))) rfl rfl (lt_ok rfl) rfl) ?_
    refine TL.cons rfl (Step.assign (p := (.one (.d (.int .i64 x)))) rfl rfl (lt_ok rfl) rfl) ?_
    refine TL.nil ?_
    refine T.ret ?_
    exact ⟨[(false, [.d (.int .i64 x)])], (.cons rfl .nil), rfl, [], (RetC.rd' (by (congr 1; unfold splitAtT; first | (rw [if_pos (by omega)]; done) | (rw [if_neg (by omega)]; rw [if_neg (by omega)] at hx4; exact hx4) | (rw [if_neg (by omega)]; omega))) .nil)⟩
theorem ok_impl_PathLen_r (d_ : Nat) : ∀ (i : Int) (n : Int) (hd_ : n.toNat = d_) , RO Try.prog 162 [.one (.int .i64 i), .one (.int .i64 n)] [(false, [.rd (.int .i64 (pathLenT i n))])] := by
 refine Nat.strongRecOn d_ ?_
 intro d_ ih i n hd_ 
 subst hd_
 refine RO.intro Try.func162 rfl 36 rfl (le_ok rfl) fun w Z => ?_
 have hsb_ := splitAtT_bd n
 refine T.seq ?_
 refine T.region ?_
 refine TL.cons rfl (Step.assign (p := (.one (.d (.int .i64 0)))) rfl rfl (lt_ok rfl) rfl) ?_
 refine TL.nil ?_
 refine T.seq ?_
 refine T.seq ?_
 refine T.region ?_
 refine TL.cons rfl (Step.move (p := (.one (.d (.int .i64 n)))) rfl rfl (lt_ok rfl) rfl) ?_
 refine TL.cons rfl (Step.bin rfl rfl (lt_ok rfl) rfl rfl (Bin.lss (k := .i64) (a := n) (b := 2))) ?_
 refine TL.cons rfl (Step.move (p := (.one (.d (.bool (decide (n < 2)))))) rfl rfl (lt_ok rfl) rfl) ?_
 rcases Bool.eq_false_or_eq_true (decide (n < 2)) with hb1 | hb1
 ·
  refine TL.known 8 hb1 rfl ?_
  have hb1' := hb1
  replace hb1' := of_decide_eq_true hb1'
  refine TL.gno 8 rfl rfl (lt_ok rfl) rfl rfl rfl (lt_ok rfl) ?_
  refine TL.gno 8 rfl rfl (lt_ok rfl) rfl rfl rfl (lt_ok rfl) ?_
  refine TL.cons rfl (Step.pick (b := true) (p := (.one (.d (.bool true)))) rfl rfl (lt_ok rfl) rfl rfl) ?_
  refine TL.cons rfl (Step.move (p := (.one (.d (.bool true)))) rfl rfl (lt_ok rfl) rfl) ?_
  refine TL.gno 12 rfl rfl (lt_ok rfl) rfl rfl rfl (lt_ok rfl) ?_
  refine TL.gno 12 rfl rfl (lt_ok rfl) rfl rfl rfl (lt_ok rfl) ?_
  refine TL.gno 12 rfl rfl (lt_ok rfl) rfl rfl rfl (lt_ok rfl) ?_
  refine TL.gno 12 rfl rfl (lt_ok rfl) rfl rfl rfl (lt_ok rfl) ?_
  refine TL.gno 12 rfl rfl (lt_ok rfl) rfl rfl rfl (lt_ok rfl) ?_
  refine TL.cons rfl (Step.pick (b := true) (p := (.one (.d (.bool true)))) rfl rfl (lt_ok rfl) rfl rfl) ?_
  refine TL.nil ?_
  refine T.cond (b := true) rfl (fun h2_ => ?_) (fun h2_ => absurd h2_ (by simp))
  refine T.seq ?_
  refine T.region ?_
  refine TL.cons rfl (Step.assign (p := (.one (.d (.int .i64 0)))) rfl rfl (lt_ok rfl) rfl) ?_
  refine TL.nil ?_
  refine T.ret ?_
  exact ⟨[(false, [.d (.int .i64 0)])], (.cons rfl .nil), rfl, [], (RetC.rd' (by (congr 1; first | (rw [pathLenT_no (i := i) (n := n) (by omega)]; done) | (rw [pathLenT_one (i := i) (n := n) (by omega)]; done) | (rw [pathLenT_left (i := i) (n := n) (by omega) (by omega) (by omega)]; done) | (rw [pathLenT_right (i := i) (n := n) (by omega) (by omega) (by omega)]; done))) .nil)⟩
 ·
  refine TL.known 8 hb1 rfl ?_
  have hb1' := hb1
  replace hb1' := of_decide_eq_false hb1'
  refine TL.gyes 8 rfl rfl (lt_ok rfl) rfl (Step.move (p := (.one (.d (.int .i64 n)))) rfl rfl (lt_ok rfl) rfl) ?_
  refine TL.gyes 8 rfl rfl (lt_ok rfl) rfl (Step.bin rfl rfl (lt_ok rfl) rfl rfl (Bin.gtr (k := .i64) (a := n) (b := 1048576))) ?_
  refine TL.cons rfl (Step.pick (b := false) (p := (.one (.d (.bool (decide (1048576 < n)))))) rfl rfl (lt_ok rfl) rfl rfl) ?_
  refine TL.cons rfl (Step.move (p := (.one (.d (.bool (decide (1048576 < n)))))) rfl rfl (lt_ok rfl) rfl) ?_
  rcases Bool.eq_false_or_eq_true (decide (1048576 < n)) with hb3 | hb3
  ·
   refine TL.known 12 hb3 rfl ?_
   have hb3' := hb3
   replace hb3' := of_decide_eq_true hb3'
   refine TL.gno 12 rfl rfl (lt_ok rfl) rfl rfl rfl (lt_ok rfl) ?_
   refine TL.gno 12 rfl rfl (lt_ok rfl) rfl rfl rfl (lt_ok rfl) ?_
   refine TL.gno 12 rfl rfl (lt_ok rfl) rfl rfl rfl (lt_ok rfl) ?_
   refine TL.gno 12 rfl rfl (lt_ok rfl) rfl rfl rfl (lt_ok rfl) ?_
   refine TL.gno 12 rfl rfl (lt_ok rfl) rfl rfl rfl (lt_ok rfl) ?_
   refine TL.cons rfl (Step.pick (b := true) (p := (.one (.d (.bool true)))) rfl rfl (lt_ok rfl) rfl rfl) ?_
   refine TL.nil ?_
   refine T.cond (b := true) rfl (fun h4_ => ?_) (fun h4_ => absurd h4_ (by simp))
   refine T.seq ?_
   refine T.region ?_
   refine TL.cons rfl (Step.assign (p := (.one (.d (.int .i64 0)))) rfl rfl (lt_ok rfl) rfl) ?_
   refine TL.nil ?_
   refine T.ret ?_
   exact ⟨[(false, [.d (.int .i64 0)])], (.cons rfl .nil), rfl, [], (RetC.rd' (by (congr 1; first | (rw [pathLenT_no (i := i) (n := n) (by omega)]; done) | (rw [pathLenT_one (i := i) (n := n) (by omega)]; done) | (rw [pathLenT_left (i := i) (n := n) (by omega) (by omega) (by omega)]; done) | (rw [pathLenT_right (i := i) (n := n) (by omega) (by omega) (by omega)]; done))) .nil)⟩
  ·
   refine TL.known 12 hb3 rfl ?_
   have hb3' := hb3
   replace hb3' := of_decide_eq_false hb3'
   refine TL.gyes 12 rfl rfl (lt_ok rfl) rfl (Step.move (p := (.one (.d (.int .i64 i)))) rfl rfl (lt_ok rfl) rfl) ?_
   refine TL.gyes 12 rfl rfl (lt_ok rfl) rfl (Step.move (p := (.one (.d (.int .i64 n)))) rfl rfl (lt_ok rfl) rfl) ?_
   refine TL.gyes 12 rfl rfl (lt_ok rfl) rfl (Step.bin (r := .int .i64 (n - 1)) rfl rfl (lt_ok rfl) rfl rfl (Bin.sub (a := n) (b := 1) (by first | exact wrap_ok (by first | omega | (simp; omega)) (by first | omega | (simp; omega)) | rfl))) ?_
   refine TL.gyes 12 rfl rfl (lt_ok rfl) rfl (Step.call (f := 144) (xs := [.tmp 13, .const (.int .i64 0), .tmp 15]) (ps := [(.one (.d (.int .i64 i))), (.one (.d (.int .i64 0))), (.one (.d (.int .i64 (n - 1))))]) false (g := .func 144) rfl rfl (lt_ok rfl) rfl (by kernel_rfl) rfl (.cons (.one (.d _)) (.cons (.one (.d _)) (.cons (.one (.d _)) .nil))) (ok_impl_within i 0 (n - 1)) (.inr rfl) rfl (by simp) rfl) ?_
   refine TL.gyes 12 rfl rfl (lt_ok rfl) rfl (Step.not (b := (decide (0 ≤ i ∧ i ≤ (n - 1)))) rfl rfl (lt_ok rfl) rfl) ?_
   refine TL.cons rfl (Step.pick (b := false) (p := (.one (.d (.bool (!(decide (0 ≤ i ∧ i ≤ (n - 1)))))))) rfl rfl (lt_ok rfl) rfl rfl) ?_
   refine TL.nil ?_
   refine T.cond (b := !(decide (0 ≤ i ∧ i ≤ (n - 1)))) rfl (fun h5 => ?_) (fun h5 => ?_)
   ·
    replace h5 : (decide (0 ≤ i ∧ i ≤ (n - 1))) = false := by simpa only [Bool.not_eq_true', Bool.not_eq_false'] using h5
    replace h5 := of_decide_eq_false h5
    refine T.seq ?_
    refine T.region ?_
    refine TL.cons rfl (Step.assign (p := (.one (.d (.int .i64 0)))) rfl rfl (lt_ok rfl) rfl) ?_
    refine TL.nil ?_
    refine T.ret ?_
    exact ⟨[(false, [.d (.int .i64 0)])], (.cons rfl .nil), rfl, [], (RetC.rd' (by (congr 1; first | (rw [pathLenT_no (i := i) (n := n) (by omega)]; done) | (rw [pathLenT_one (i := i) (n := n) (by omega)]; done) | (rw [pathLenT_left (i := i) (n := n) (by omega) (by omega) (by omega)]; done) | (rw [pathLenT_right (i := i) (n := n) (by omega) (by omega) (by omega)]; done))) .nil)⟩
   ·
    replace h5 : (decide (0 ≤ i ∧ i ≤ (n - 1))) = true := by simpa only [Bool.not_eq_true', Bool.not_eq_false'] using h5
    replace h5 := of_decide_eq_true h5
    refine T.skip ?_
    refine T.seq ?_
    refine T.region ?_
    refine TL.cons rfl (Step.move (p := (.one (.d (.int .i64 n)))) rfl rfl (lt_ok rfl) rfl) ?_
    have nn6 := splitAtT_bd n
    refine TL.cons rfl (Step.call (f := 177) (xs := [.tmp 19]) (ps := [(.one (.d (.int .i64 n)))]) false (g := .func 177) rfl rfl (lt_ok rfl) rfl (by kernel_rfl) rfl (.cons (.one (.d _)) .nil) (ok_impl_SplitAt n (by first | omega | assumption | (simp only [List.length_append] at *; omega))) (.inr rfl) rfl (by simp) rfl) ?_
    refine TL.cons rfl (Step.assign (p := (.one (.d (.int .i64 (splitAtT n))))) rfl rfl (lt_ok rfl) rfl) ?_
    refine TL.nil ?_
    refine T.seq ?_
    refine T.seq ?_
    refine T.region ?_
    refine TL.cons rfl (Step.move (p := (.one (.d (.int .i64 i)))) rfl rfl (lt_ok rfl) rfl) ?_
    refine TL.cons rfl (Step.move (p := (.one (.d (.int .i64 (splitAtT n))))) rfl rfl (lt_ok rfl) rfl) ?_
    refine TL.cons rfl (Step.bin rfl rfl (lt_ok rfl) rfl rfl (Bin.lss (k := .i64) (a := i) (b := (splitAtT n)))) ?_
    refine TL.nil ?_
    refine T.cond (b := decide (i < (splitAtT n))) rfl (fun h7 => ?_) (fun h7 => ?_)
    ·
     replace h7 := of_decide_eq_true h7
     refine T.seq ?_
     refine T.region ?_
     refine TL.cons rfl (Step.move (p := (.one (.d (.int .i64 i)))) rfl rfl (lt_ok rfl) rfl) ?_
     refine TL.cons rfl (Step.move (p := (.one (.d (.int .i64 (splitAtT n))))) rfl rfl (lt_ok rfl) rfl) ?_
     have nn8 := pathLenT_bd (i) ((splitAtT n))
     refine TL.cons rfl (Step.call (f := 162) (xs := [.tmp 24, .tmp 25]) (ps := [(.one (.d (.int .i64 i))), (.one (.d (.int .i64 (splitAtT n))))]) false (g := .func 162) rfl rfl (lt_ok rfl) rfl (by kernel_rfl) rfl (.cons (.one (.d _)) (.cons (.one (.d _)) .nil)) (ih (splitAtT n).toNat (by omega) i (splitAtT n) rfl) (.inr rfl) rfl (by simp) rfl) ?_
     refine TL.cons rfl (Step.bin (r := .int .i64 (1 + (pathLenT i (splitAtT n)))) rfl rfl (lt_ok rfl) rfl rfl (Bin.add (a := 1) (b := (pathLenT i (splitAtT n))) (by first | exact wrap_ok (by first | omega | (simp; omega)) (by first | omega | (simp; omega)) | rfl))) ?_
     refine TL.cons rfl (Step.assign (p := (.one (.d (.int .i64 (1 + (pathLenT i (splitAtT n))))))) rfl rfl (lt_ok rfl) rfl) ?_
     refine TL.nil ?_
     refine T.ret ?_
     exact ⟨[(false, [.d (.int .i64 (1 + (pathLenT i (splitAtT n))))])], (.cons rfl .nil), rfl, [], (RetC.rd' (by (congr 1; first | (rw [pathLenT_no (i := i) (n := n) (by omega)]; done) | (rw [pathLenT_one (i := i) (n := n) (by omega)]; done) | (rw [pathLenT_left (i := i) (n := n) (by omega) (by omega) (by omega)]; done) | (rw [pathLenT_right (i := i) (n := n) (by omega) (by omega) (by omega)]; done))) .nil)⟩
    ·
     replace h7 := of_decide_eq_false h7
     refine T.skip ?_
     refine T.seq ?_
     refine T.region ?_
     refine TL.cons rfl (Step.move (p := (.one (.d (.int .i64 i)))) rfl rfl (lt_ok rfl) rfl) ?_
     refine TL.cons rfl (Step.move (p := (.one (.d (.int .i64 (splitAtT n))))) rfl rfl (lt_ok rfl) rfl) ?_
     refine TL.cons rfl (Step.bin (r := .int .i64 (i - (splitAtT n))) rfl rfl (lt_ok rfl) rfl rfl (Bin.sub (a := i) (b := (splitAtT n)) (by first | exact wrap_ok (by first | omega | (simp; omega)) (by first | omega | (simp; omega)) | rfl))) ?_
     refine TL.cons rfl (Step.move (p := (.one (.d (.int .i64 n)))) rfl rfl (lt_ok rfl) rfl) ?_
     refine TL.cons rfl (Step.move (p := (.one (.d (.int .i64 (splitAtT n))))) rfl rfl (lt_ok rfl) rfl) ?_
     refine TL.cons rfl (Step.bin (r := .int .i64 (n - (splitAtT n))) rfl rfl (lt_ok rfl) rfl rfl (Bin.sub (a := n) (b := (splitAtT n)) (by first | exact wrap_ok (by first | omega | (simp; omega)) (by first | omega | (simp; omega)) | rfl))) ?_
     have nn9 := pathLenT_bd ((i - (splitAtT n))) ((n - (splitAtT n)))
     refine TL.cons rfl (Step.call (f := 162) (xs := [.tmp 30, .tmp 33]) (ps := [(.one (.d (.int .i64 (i - (splitAtT n))))), (.one (.d (.int .i64 (n - (splitAtT n)))))]) false (g := .func 162) rfl rfl (lt_ok rfl) rfl (by kernel_rfl) rfl (.cons (.one (.d _)) (.cons (.one (.d _)) .nil)) (ih (n - (splitAtT n)).toNat (by omega) (i - (splitAtT n)) (n - (splitAtT n)) rfl) (.inr rfl) rfl (by simp) rfl) ?_
     refine TL.cons rfl (Step.bin (r := .int .i64 (1 + (pathLenT (i - (splitAtT n)) (n - (splitAtT n))))) rfl rfl (lt_ok rfl) rfl rfl (Bin.add (a := 1) (b := (pathLenT (i - (splitAtT n)) (n - (splitAtT n)))) (by first | exact wrap_ok (by first | omega | (simp; omega)) (by first | omega | (simp; omega)) | rfl))) ?_
     refine TL.cons rfl (Step.assign (p := (.one (.d (.int .i64 (1 + (pathLenT (i - (splitAtT n)) (n - (splitAtT n)))))))) rfl rfl (lt_ok rfl) rfl) ?_
     refine TL.nil ?_
     refine T.ret ?_
     exact ⟨[(false, [.d (.int .i64 (1 + (pathLenT (i - (splitAtT n)) (n - (splitAtT n)))))])], (.cons rfl .nil), rfl, [], (RetC.rd' (by (congr 1; first | (rw [pathLenT_no (i := i) (n := n) (by omega)]; done) | (rw [pathLenT_one (i := i) (n := n) (by omega)]; done) | (rw [pathLenT_left (i := i) (n := n) (by omega) (by omega) (by omega)]; done) | (rw [pathLenT_right (i := i) (n := n) (by omega) (by omega) (by omega)]; done))) .nil)⟩
theorem ok_impl_PathLen (i : Int) (n : Int) : RO Try.prog 162 [.one (.int .i64 i), .one (.int .i64 n)] [(false, [.rd (.int .i64 (pathLenT i n))])] := ok_impl_PathLen_r _ i n rfl 
theorem ok_impl_InclOk (l : SLimits) (x : SIncl) : RO Try.prog 114 [.agg l.cells, .agg x.cells] [(false, [.rd (.bool (inclOk l x))])] := by
 refine RO.intro Try.func114 rfl 51 rfl (le_ok rfl) fun w Z => ?_
 refine T.seq ?_
 refine T.region ?_
 refine TL.cons rfl (Step.box (p := (.agg [.d (.int .i64 l.f0), .d (.int .i64 l.f1), .d (.int .i64 l.f2), .d (.int .i64 l.f3), .d (.int .i64 l.f4)])) (ps := [.d (.int .i64 l.f0), .d (.int .i64 l.f1), .d (.int .i64 l.f2), .d (.int .i64 l.f3), .d (.int .i64 l.f4)]) rfl rfl (lt_ok rfl) rfl rfl rfl rfl rfl) ?_
 refine TL.cons rfl (Step.box (p := (.agg [.d (.int .i64 x.f0), .d (.int .i64 x.f1), .d (.int .i64 x.f2), .d (.ints .u8 x.f3), .d (.bss x.f4)])) (ps := [.d (.int .i64 x.f0), .d (.int .i64 x.f1), .d (.int .i64 x.f2), .d (.ints .u8 x.f3), .d (.bss x.f4)]) rfl rfl (lt_ok rfl) rfl rfl rfl rfl rfl) ?_
 refine TL.cons rfl (Step.assign (p := (.one (.d (.bool false)))) rfl rfl (lt_ok rfl) rfl) ?_
 refine TL.nil ?_
 refine T.seq ?_
 rcases Bool.eq_false_or_eq_true (limOk l) with hb1 | hb1
 ·
  rcases Bool.eq_false_or_eq_true (decide (0 ≤ x.f0 ∧ x.f0 ≤ 1152921504606846975)) with hb2 | hb2
  ·
   rcases Bool.eq_false_or_eq_true (decide (1 ≤ x.f1 ∧ x.f1 ≤ l.f2)) with hb3 | hb3
   ·
    rcases Bool.eq_false_or_eq_true (decide (0 ≤ x.f2 ∧ x.f2 ≤ (IntKind.i64.wrap (x.f1 - 1)))) with hb4 | hb4
    ·
     rcases Bool.eq_false_or_eq_true (decide ((x.f3.length : Int) ≤ l.f1)) with hb5 | hb5
     ·
      have nn6 := pathLenT_bd (x.f2) (x.f1)
      rcases Bool.eq_false_or_eq_true (decide ((x.f4.length : Int) = (pathLenT x.f2 x.f1))) with hb7 | hb7
      ·
       have nn8 := pathLenT_bd (x.f2) (x.f1)
       refine T.draw [⟨5, (.agg [.d (.int .i64 l.f0), .d (.int .i64 l.f1), .d (.int .i64 l.f2), .d (.int .i64 l.f3), .d (.int .i64 l.f4)]), []⟩, ⟨6, (.one (.d (.bool true))), []⟩, ⟨7, (.one (.d (.bool true))), []⟩, ⟨8, (.one (.ptr 3 0)), []⟩, ⟨9, (.one (.d (.int .i64 x.f0))), []⟩, ⟨10, (.one (.d (.bool true))), []⟩, ⟨11, (.one (.d (.bool true))), []⟩, ⟨12, (.one (.d (.bool true))), []⟩, ⟨13, (.one (.ptr 3 1)), []⟩, ⟨14, (.one (.d (.int .i64 x.f1))), []⟩, ⟨15, (.one (.ptr 2 2)), []⟩, ⟨16, (.one (.d (.int .i64 l.f2))), []⟩, ⟨17, (.one (.d (.bool true))), []⟩, ⟨18, (.one (.d (.bool true))), []⟩, ⟨19, (.one (.d (.bool true))), []⟩, ⟨20, (.one (.ptr 3 2)), []⟩, ⟨21, (.one (.d (.int .i64 x.f2))), []⟩, ⟨22, (.one (.ptr 3 1)), []⟩, ⟨23, (.one (.d (.int .i64 x.f1))), []⟩, ⟨24, (.one (.d (.int .i64 (IntKind.i64.wrap (x.f1 - 1))))), []⟩, ⟨25, (.one (.d (.bool true))), []⟩, ⟨26, (.one (.d (.bool true))), []⟩, ⟨27, (.one (.d (.bool true))), []⟩, ⟨28, (.one (.ptr 3 3)), []⟩, ⟨29, (.one (.d (.ints .u8 x.f3))), []⟩, ⟨30, (.one (.d (.int .i64 (x.f3.length : Int)))), []⟩, ⟨31, (.one (.ptr 2 1)), []⟩, ⟨32, (.one (.d (.int .i64 l.f1))), []⟩, ⟨33, (.one (.d (.bool true))), []⟩, ⟨34, (.one (.d (.bool true))), []⟩, ⟨35, (.one (.d (.bool true))), []⟩, ⟨36, (.one (.ptr 3 4)), []⟩, ⟨37, (.one (.d (.bss x.f4))), []⟩, ⟨38, (.one (.d (.int .i64 (x.f4.length : Int)))), []⟩, ⟨39, (.one (.ptr 3 2)), []⟩, ⟨40, (.one (.d (.int .i64 x.f2))), []⟩, ⟨41, (.one (.ptr 3 1)), []⟩, ⟨42, (.one (.d (.int .i64 x.f1))), []⟩, ⟨43, (.one (.d (.int .i64 (pathLenT x.f2 x.f1)))), []⟩, ⟨44, (.one (.d (.bool true))), []⟩, ⟨45, (.one (.d (.bool true))), []⟩, ⟨46, (.one (.d (.bool true))), []⟩, ⟨47, (.one (.ptr 3 4)), []⟩, ⟨48, (.one (.d (.bss x.f4))), []⟩, ⟨49, (.one (.d (.bool (hashes x.f4)))), []⟩, ⟨50, (.one (.d (.bool (hashes x.f4)))), []⟩, ⟨4, (.one (.d (.bool (hashes x.f4)))), []⟩] (by kernel_rfl) (by kernel_rfl) ?_ ?_
       ·
        refine .cons (fun E h => by have g2 := h.get 2 (by decide); exact OpStep.plain rfl (Step.load_box_agg (n := 5) (qs := [.d (.int .i64 l.f0), .d (.int .i64 l.f1), .d (.int .i64 l.f2), .d (.int .i64 l.f3), .d (.int .i64 l.f4)]) (t := 5) rfl rfl (by exact lt_ok rfl) (by kernel_rfl) (show Env.ev E (.tmp 2) = _ from g2.trans rfl) (by exact h.box rfl) rfl rfl)) ?_
        refine .cons (fun E h => by have g5 := h.get 5 (by decide); exact OpStep.plain rfl (Step.to (E1 := E.set 6 (.one (.d (.bool (limOk l))))) (congrArg (fun b_ => E.set 6 (.one (.d (.bool b_)))) hb1) (Step.call (f := 146) (xs := [.tmp 5]) (ps := [(.agg [.d (.int .i64 l.f0), .d (.int .i64 l.f1), .d (.int .i64 l.f2), .d (.int .i64 l.f3), .d (.int .i64 l.f4)])]) false (g := .func 146) (t := 6) rfl rfl (by exact lt_ok rfl) rfl (by kernel_rfl) (evs_cons (show Env.ev E (.tmp 5) = _ from g5.trans rfl) (rfl)) (.cons (.agg (.cons (.d _) (.cons (.d _) (.cons (.d _) (.cons (.d _) (.cons (.d _) .nil)))))) .nil) (ok_impl_LimitsOk l) (.inr rfl) (At.freshRows h rfl) (by simp) rfl))) ?_
        refine .cons (fun E h => by have g6 := h.get 6 (by decide); exact OpStep.plain rfl (Step.move (p := (.one (.d (.bool true)))) (t := 7) rfl rfl (by exact lt_ok rfl) (show Env.ev E (.tmp 6) = _ from g6.trans rfl))) ?_
        refine .cons (fun E h => by have g3 := h.get 3 (by decide); have g7 := h.get 7 (by decide); exact OpStep.yes (t := 7) rfl rfl (lt_ok rfl) (g7.trans rfl) (Step.fieldAddr (q := 0) (off := 0) (n := 1) (one := true) (t := 8) rfl rfl (by exact lt_ok rfl) (by kernel_rfl) (Nat.succ_ne_zero _) (show Env.ev E (.tmp 3) = _ from g3.trans rfl))) ?_
        refine .cons (fun E h => by have g7 := h.get 7 (by decide); have g8 := h.get 8 (by decide); exact OpStep.yes (t := 7) rfl rfl (lt_ok rfl) (g7.trans rfl) (Step.load_box (c := .d (.int .i64 x.f0)) (t := 9) rfl rfl (by exact lt_ok rfl) (by kernel_rfl) (show Env.ev E (.tmp 8) = _ from g8.trans rfl) (by exact h.box rfl) rfl)) ?_
        refine .cons (fun E h => by have g7 := h.get 7 (by decide); have g9 := h.get 9 (by decide); exact OpStep.yes (t := 7) rfl rfl (lt_ok rfl) (g7.trans rfl) (Step.to (E1 := E.set 10 (.one (.d (.bool (decide (0 ≤ x.f0 ∧ x.f0 ≤ 1152921504606846975)))))) (congrArg (fun b_ => E.set 10 (.one (.d (.bool b_)))) hb2) (Step.call (f := 147) (xs := [.tmp 9]) (ps := [(.one (.d (.int .i64 x.f0)))]) false (g := .func 147) (t := 10) rfl rfl (by exact lt_ok rfl) rfl (by kernel_rfl) (evs_cons (show Env.ev E (.tmp 9) = _ from g9.trans rfl) (rfl)) (.cons (.one (.d _)) .nil) (ok_impl_isNum x.f0) (.inr rfl) (At.freshRows h rfl) (by simp) rfl))) ?_
        refine .cons (fun E h => by have g7 := h.get 7 (by decide); have g10 := h.get 10 (by decide); exact OpStep.plain rfl (Step.pick (b := true) (p := (.one (.d (.bool true)))) (t := 11) rfl rfl (by exact lt_ok rfl) (show Env.ev E (.tmp 7) = _ from g7.trans rfl) (show Env.ev E (.tmp 10) = _ from g10.trans rfl))) ?_
        refine .cons (fun E h => by have g11 := h.get 11 (by decide); exact OpStep.plain rfl (Step.move (p := (.one (.d (.bool true)))) (t := 12) rfl rfl (by exact lt_ok rfl) (show Env.ev E (.tmp 11) = _ from g11.trans rfl))) ?_
        refine .cons (fun E h => by have g3 := h.get 3 (by decide); have g12 := h.get 12 (by decide); exact OpStep.yes (t := 12) rfl rfl (lt_ok rfl) (g12.trans rfl) (Step.fieldAddr (q := 0) (off := 1) (n := 1) (one := true) (t := 13) rfl rfl (by exact lt_ok rfl) (by kernel_rfl) (Nat.succ_ne_zero _) (show Env.ev E (.tmp 3) = _ from g3.trans rfl))) ?_
        refine .cons (fun E h => by have g12 := h.get 12 (by decide); have g13 := h.get 13 (by decide); exact OpStep.yes (t := 12) rfl rfl (lt_ok rfl) (g12.trans rfl) (Step.load_box (c := .d (.int .i64 x.f1)) (t := 14) rfl rfl (by exact lt_ok rfl) (by kernel_rfl) (show Env.ev E (.tmp 13) = _ from g13.trans rfl) (by exact h.box rfl) rfl)) ?_
        refine .cons (fun E h => by have g2 := h.get 2 (by decide); have g12 := h.get 12 (by decide); exact OpStep.yes (t := 12) rfl rfl (lt_ok rfl) (g12.trans rfl) (Step.fieldAddr (q := 0) (off := 2) (n := 1) (one := true) (t := 15) rfl rfl (by exact lt_ok rfl) (by kernel_rfl) (Nat.succ_ne_zero _) (show Env.ev E (.tmp 2) = _ from g2.trans rfl))) ?_
        refine .cons (fun E h => by have g12 := h.get 12 (by decide); have g15 := h.get 15 (by decide); exact OpStep.yes (t := 12) rfl rfl (lt_ok rfl) (g12.trans rfl) (Step.load_box (c := .d (.int .i64 l.f2)) (t := 16) rfl rfl (by exact lt_ok rfl) (by kernel_rfl) (show Env.ev E (.tmp 15) = _ from g15.trans rfl) (by exact h.box rfl) rfl)) ?_
        refine .cons (fun E h => by have g12 := h.get 12 (by decide); have g14 := h.get 14 (by decide); have g16 := h.get 16 (by decide); exact OpStep.yes (t := 12) rfl rfl (lt_ok rfl) (g12.trans rfl) (Step.to (E1 := E.set 17 (.one (.d (.bool (decide (1 ≤ x.f1 ∧ x.f1 ≤ l.f2)))))) (congrArg (fun b_ => E.set 17 (.one (.d (.bool b_)))) hb3) (Step.call (f := 144) (xs := [.tmp 14, .const (.int .i64 1), .tmp 16]) (ps := [(.one (.d (.int .i64 x.f1))), (.one (.d (.int .i64 1))), (.one (.d (.int .i64 l.f2)))]) false (g := .func 144) (t := 17) rfl rfl (by exact lt_ok rfl) rfl (by kernel_rfl) (evs_cons (show Env.ev E (.tmp 14) = _ from g14.trans rfl) (evs_cons rfl (evs_cons (show Env.ev E (.tmp 16) = _ from g16.trans rfl) (rfl)))) (.cons (.one (.d _)) (.cons (.one (.d _)) (.cons (.one (.d _)) .nil))) (ok_impl_within x.f1 1 l.f2) (.inr rfl) (At.freshRows h rfl) (by simp) rfl))) ?_
        refine .cons (fun E h => by have g12 := h.get 12 (by decide); have g17 := h.get 17 (by decide); exact OpStep.plain rfl (Step.pick (b := true) (p := (.one (.d (.bool true)))) (t := 18) rfl rfl (by exact lt_ok rfl) (show Env.ev E (.tmp 12) = _ from g12.trans rfl) (show Env.ev E (.tmp 17) = _ from g17.trans rfl))) ?_
        refine .cons (fun E h => by have g18 := h.get 18 (by decide); exact OpStep.plain rfl (Step.move (p := (.one (.d (.bool true)))) (t := 19) rfl rfl (by exact lt_ok rfl) (show Env.ev E (.tmp 18) = _ from g18.trans rfl))) ?_
        refine .cons (fun E h => by have g3 := h.get 3 (by decide); have g19 := h.get 19 (by decide); exact OpStep.yes (t := 19) rfl rfl (lt_ok rfl) (g19.trans rfl) (Step.fieldAddr (q := 0) (off := 2) (n := 1) (one := true) (t := 20) rfl rfl (by exact lt_ok rfl) (by kernel_rfl) (Nat.succ_ne_zero _) (show Env.ev E (.tmp 3) = _ from g3.trans rfl))) ?_
        refine .cons (fun E h => by have g19 := h.get 19 (by decide); have g20 := h.get 20 (by decide); exact OpStep.yes (t := 19) rfl rfl (lt_ok rfl) (g19.trans rfl) (Step.load_box (c := .d (.int .i64 x.f2)) (t := 21) rfl rfl (by exact lt_ok rfl) (by kernel_rfl) (show Env.ev E (.tmp 20) = _ from g20.trans rfl) (by exact h.box rfl) rfl)) ?_
        refine .cons (fun E h => by have g3 := h.get 3 (by decide); have g19 := h.get 19 (by decide); exact OpStep.yes (t := 19) rfl rfl (lt_ok rfl) (g19.trans rfl) (Step.fieldAddr (q := 0) (off := 1) (n := 1) (one := true) (t := 22) rfl rfl (by exact lt_ok rfl) (by kernel_rfl) (Nat.succ_ne_zero _) (show Env.ev E (.tmp 3) = _ from g3.trans rfl))) ?_
        refine .cons (fun E h => by have g19 := h.get 19 (by decide); have g22 := h.get 22 (by decide); exact OpStep.yes (t := 19) rfl rfl (lt_ok rfl) (g19.trans rfl) (Step.load_box (c := .d (.int .i64 x.f1)) (t := 23) rfl rfl (by exact lt_ok rfl) (by kernel_rfl) (show Env.ev E (.tmp 22) = _ from g22.trans rfl) (by exact h.box rfl) rfl)) ?_
        refine .cons (fun E h => by have g19 := h.get 19 (by decide); have g23 := h.get 23 (by decide); exact OpStep.yes (t := 19) rfl rfl (lt_ok rfl) (g19.trans rfl) (Step.bin (r := .int .i64 (IntKind.i64.wrap (x.f1 - 1))) (t := 24) rfl rfl (by exact lt_ok rfl) (show Env.ev E (.tmp 23) = _ from g23.trans rfl) rfl (Bin.sub (a := x.f1) (b := 1) (rfl)))) ?_
        refine .cons (fun E h => by have g19 := h.get 19 (by decide); have g21 := h.get 21 (by decide); have g24 := h.get 24 (by decide); exact OpStep.yes (t := 19) rfl rfl (lt_ok rfl) (g19.trans rfl) (Step.to (E1 := E.set 25 (.one (.d (.bool (decide (0 ≤ x.f2 ∧ x.f2 ≤ (IntKind.i64.wrap (x.f1 - 1)))))))) (congrArg (fun b_ => E.set 25 (.one (.d (.bool b_)))) hb4) (Step.call (f := 144) (xs := [.tmp 21, .const (.int .i64 0), .tmp 24]) (ps := [(.one (.d (.int .i64 x.f2))), (.one (.d (.int .i64 0))), (.one (.d (.int .i64 (IntKind.i64.wrap (x.f1 - 1)))))]) false (g := .func 144) (t := 25) rfl rfl (by exact lt_ok rfl) rfl (by kernel_rfl) (evs_cons (show Env.ev E (.tmp 21) = _ from g21.trans rfl) (evs_cons rfl (evs_cons (show Env.ev E (.tmp 24) = _ from g24.trans rfl) (rfl)))) (.cons (.one (.d _)) (.cons (.one (.d _)) (.cons (.one (.d _)) .nil))) (ok_impl_within x.f2 0 (IntKind.i64.wrap (x.f1 - 1))) (.inr rfl) (At.freshRows h rfl) (by simp) rfl))) ?_
        refine .cons (fun E h => by have g19 := h.get 19 (by decide); have g25 := h.get 25 (by decide); exact OpStep.plain rfl (Step.pick (b := true) (p := (.one (.d (.bool true)))) (t := 26) rfl rfl (by exact lt_ok rfl) (show Env.ev E (.tmp 19) = _ from g19.trans rfl) (show Env.ev E (.tmp 25) = _ from g25.trans rfl))) ?_
        refine .cons (fun E h => by have g26 := h.get 26 (by decide); exact OpStep.plain rfl (Step.move (p := (.one (.d (.bool true)))) (t := 27) rfl rfl (by exact lt_ok rfl) (show Env.ev E (.tmp 26) = _ from g26.trans rfl))) ?_
        refine .cons (fun E h => by have g3 := h.get 3 (by decide); have g27 := h.get 27 (by decide); exact OpStep.yes (t := 27) rfl rfl (lt_ok rfl) (g27.trans rfl) (Step.fieldAddr (q := 0) (off := 3) (n := 1) (one := true) (t := 28) rfl rfl (by exact lt_ok rfl) (by kernel_rfl) (Nat.succ_ne_zero _) (show Env.ev E (.tmp 3) = _ from g3.trans rfl))) ?_
        refine .cons (fun E h => by have g27 := h.get 27 (by decide); have g28 := h.get 28 (by decide); exact OpStep.yes (t := 27) rfl rfl (lt_ok rfl) (g27.trans rfl) (Step.load_box (c := .d (.ints .u8 x.f3)) (t := 29) rfl rfl (by exact lt_ok rfl) (by kernel_rfl) (show Env.ev E (.tmp 28) = _ from g28.trans rfl) (by exact h.box rfl) rfl)) ?_
        refine .cons (fun E h => by have g27 := h.get 27 (by decide); have g29 := h.get 29 (by decide); exact OpStep.yes (t := 27) rfl rfl (lt_ok rfl) (g27.trans rfl) (Step.len (e := 5) (z := 1) (d := (.ints .u8 x.f3)) (t := 30) rfl rfl (by exact lt_ok rfl) (by kernel_rfl) (show Env.ev E (.tmp 29) = _ from g29.trans rfl) rfl)) ?_
        refine .cons (fun E h => by have g2 := h.get 2 (by decide); have g27 := h.get 27 (by decide); exact OpStep.yes (t := 27) rfl rfl (lt_ok rfl) (g27.trans rfl) (Step.fieldAddr (q := 0) (off := 1) (n := 1) (one := true) (t := 31) rfl rfl (by exact lt_ok rfl) (by kernel_rfl) (Nat.succ_ne_zero _) (show Env.ev E (.tmp 2) = _ from g2.trans rfl))) ?_
        refine .cons (fun E h => by have g27 := h.get 27 (by decide); have g31 := h.get 31 (by decide); exact OpStep.yes (t := 27) rfl rfl (lt_ok rfl) (g27.trans rfl) (Step.load_box (c := .d (.int .i64 l.f1)) (t := 32) rfl rfl (by exact lt_ok rfl) (by kernel_rfl) (show Env.ev E (.tmp 31) = _ from g31.trans rfl) (by exact h.box rfl) rfl)) ?_
        refine .cons (fun E h => by have g27 := h.get 27 (by decide); have g30 := h.get 30 (by decide); have g32 := h.get 32 (by decide); exact OpStep.yes (t := 27) rfl rfl (lt_ok rfl) (g27.trans rfl) (Step.to (E1 := E.set 33 (.one (.d (.bool (decide ((x.f3.length : Int) ≤ l.f1)))))) (congrArg (fun b_ => E.set 33 (.one (.d (.bool b_)))) hb5) (Step.bin (t := 33) rfl rfl (by exact lt_ok rfl) (show Env.ev E (.tmp 30) = _ from g30.trans rfl) (show Env.ev E (.tmp 32) = _ from g32.trans rfl) (Bin.leq (k := .i64) (a := (x.f3.length : Int)) (b := l.f1))))) ?_
        refine .cons (fun E h => by have g27 := h.get 27 (by decide); have g33 := h.get 33 (by decide); exact OpStep.plain rfl (Step.pick (b := true) (p := (.one (.d (.bool true)))) (t := 34) rfl rfl (by exact lt_ok rfl) (show Env.ev E (.tmp 27) = _ from g27.trans rfl) (show Env.ev E (.tmp 33) = _ from g33.trans rfl))) ?_
        refine .cons (fun E h => by have g34 := h.get 34 (by decide); exact OpStep.plain rfl (Step.move (p := (.one (.d (.bool true)))) (t := 35) rfl rfl (by exact lt_ok rfl) (show Env.ev E (.tmp 34) = _ from g34.trans rfl))) ?_
        refine .cons (fun E h => by have g3 := h.get 3 (by decide); have g35 := h.get 35 (by decide); exact OpStep.yes (t := 35) rfl rfl (lt_ok rfl) (g35.trans rfl) (Step.fieldAddr (q := 0) (off := 4) (n := 1) (one := true) (t := 36) rfl rfl (by exact lt_ok rfl) (by kernel_rfl) (Nat.succ_ne_zero _) (show Env.ev E (.tmp 3) = _ from g3.trans rfl))) ?_
        refine .cons (fun E h => by have g35 := h.get 35 (by decide); have g36 := h.get 36 (by decide); exact OpStep.yes (t := 35) rfl rfl (lt_ok rfl) (g35.trans rfl) (Step.load_box (c := .d (.bss x.f4)) (t := 37) rfl rfl (by exact lt_ok rfl) (by kernel_rfl) (show Env.ev E (.tmp 36) = _ from g36.trans rfl) (by exact h.box rfl) rfl)) ?_
        refine .cons (fun E h => by have g35 := h.get 35 (by decide); have g37 := h.get 37 (by decide); exact OpStep.yes (t := 35) rfl rfl (lt_ok rfl) (g35.trans rfl) (Step.len (e := 22) (z := 1) (d := (.bss x.f4)) (t := 38) rfl rfl (by exact lt_ok rfl) (by kernel_rfl) (show Env.ev E (.tmp 37) = _ from g37.trans rfl) rfl)) ?_
        refine .cons (fun E h => by have g3 := h.get 3 (by decide); have g35 := h.get 35 (by decide); exact OpStep.yes (t := 35) rfl rfl (lt_ok rfl) (g35.trans rfl) (Step.fieldAddr (q := 0) (off := 2) (n := 1) (one := true) (t := 39) rfl rfl (by exact lt_ok rfl) (by kernel_rfl) (Nat.succ_ne_zero _) (show Env.ev E (.tmp 3) = _ from g3.trans rfl))) ?_
        refine .cons (fun E h => by have g35 := h.get 35 (by decide); have g39 := h.get 39 (by decide); exact OpStep.yes (t := 35) rfl rfl (lt_ok rfl) (g35.trans rfl) (Step.load_box (c := .d (.int .i64 x.f2)) (t := 40) rfl rfl (by exact lt_ok rfl) (by kernel_rfl) (show Env.ev E (.tmp 39) = _ from g39.trans rfl) (by exact h.box rfl) rfl)) ?_
        refine .cons (fun E h => by have g3 := h.get 3 (by decide); have g35 := h.get 35 (by decide); exact OpStep.yes (t := 35) rfl rfl (lt_ok rfl) (g35.trans rfl) (Step.fieldAddr (q := 0) (off := 1) (n := 1) (one := true) (t := 41) rfl rfl (by exact lt_ok rfl) (by kernel_rfl) (Nat.succ_ne_zero _) (show Env.ev E (.tmp 3) = _ from g3.trans rfl))) ?_
        refine .cons (fun E h => by have g35 := h.get 35 (by decide); have g41 := h.get 41 (by decide); exact OpStep.yes (t := 35) rfl rfl (lt_ok rfl) (g35.trans rfl) (Step.load_box (c := .d (.int .i64 x.f1)) (t := 42) rfl rfl (by exact lt_ok rfl) (by kernel_rfl) (show Env.ev E (.tmp 41) = _ from g41.trans rfl) (by exact h.box rfl) rfl)) ?_
        refine .cons (fun E h => by have g35 := h.get 35 (by decide); have g40 := h.get 40 (by decide); have g42 := h.get 42 (by decide); exact OpStep.yes (t := 35) rfl rfl (lt_ok rfl) (g35.trans rfl) (Step.call (f := 162) (xs := [.tmp 40, .tmp 42]) (ps := [(.one (.d (.int .i64 x.f2))), (.one (.d (.int .i64 x.f1)))]) false (g := .func 162) (t := 43) rfl rfl (by exact lt_ok rfl) rfl (by kernel_rfl) (evs_cons (show Env.ev E (.tmp 40) = _ from g40.trans rfl) (evs_cons (show Env.ev E (.tmp 42) = _ from g42.trans rfl) (rfl))) (.cons (.one (.d _)) (.cons (.one (.d _)) .nil)) (ok_impl_PathLen x.f2 x.f1) (.inr rfl) (At.freshRows h rfl) (by simp) rfl)) ?_
        refine .cons (fun E h => by have g35 := h.get 35 (by decide); have g38 := h.get 38 (by decide); have g43 := h.get 43 (by decide); exact OpStep.yes (t := 35) rfl rfl (lt_ok rfl) (g35.trans rfl) (Step.to (E1 := E.set 44 (.one (.d (.bool (decide ((x.f4.length : Int) = (pathLenT x.f2 x.f1))))))) (congrArg (fun b_ => E.set 44 (.one (.d (.bool b_)))) hb7) (Step.bin (t := 44) rfl rfl (by exact lt_ok rfl) (show Env.ev E (.tmp 38) = _ from g38.trans rfl) (show Env.ev E (.tmp 43) = _ from g43.trans rfl) (Bin.eql (k := .i64) (a := (x.f4.length : Int)) (b := (pathLenT x.f2 x.f1)))))) ?_
        refine .cons (fun E h => by have g35 := h.get 35 (by decide); have g44 := h.get 44 (by decide); exact OpStep.plain rfl (Step.pick (b := true) (p := (.one (.d (.bool true)))) (t := 45) rfl rfl (by exact lt_ok rfl) (show Env.ev E (.tmp 35) = _ from g35.trans rfl) (show Env.ev E (.tmp 44) = _ from g44.trans rfl))) ?_
        refine .cons (fun E h => by have g45 := h.get 45 (by decide); exact OpStep.plain rfl (Step.move (p := (.one (.d (.bool true)))) (t := 46) rfl rfl (by exact lt_ok rfl) (show Env.ev E (.tmp 45) = _ from g45.trans rfl))) ?_
        refine .cons (fun E h => by have g3 := h.get 3 (by decide); have g46 := h.get 46 (by decide); exact OpStep.yes (t := 46) rfl rfl (lt_ok rfl) (g46.trans rfl) (Step.fieldAddr (q := 0) (off := 4) (n := 1) (one := true) (t := 47) rfl rfl (by exact lt_ok rfl) (by kernel_rfl) (Nat.succ_ne_zero _) (show Env.ev E (.tmp 3) = _ from g3.trans rfl))) ?_
        refine .cons (fun E h => by have g46 := h.get 46 (by decide); have g47 := h.get 47 (by decide); exact OpStep.yes (t := 46) rfl rfl (lt_ok rfl) (g46.trans rfl) (Step.load_box (c := .d (.bss x.f4)) (t := 48) rfl rfl (by exact lt_ok rfl) (by kernel_rfl) (show Env.ev E (.tmp 47) = _ from g47.trans rfl) (by exact h.box rfl) rfl)) ?_
        refine .cons (fun E h => by have g46 := h.get 46 (by decide); have g48 := h.get 48 (by decide); exact OpStep.yes (t := 46) rfl rfl (lt_ok rfl) (g46.trans rfl) (Step.call (f := 145) (xs := [.tmp 48]) (ps := [(.one (.d (.bss x.f4)))]) false (g := .func 145) (t := 49) rfl rfl (by exact lt_ok rfl) rfl (by kernel_rfl) (evs_cons (show Env.ev E (.tmp 48) = _ from g48.trans rfl) (rfl)) (.cons (.one (.d _)) .nil) (ok_impl_areHashes x.f4) (.inr rfl) (At.freshRows h rfl) (by simp) rfl)) ?_
        refine .cons (fun E h => by have g46 := h.get 46 (by decide); have g49 := h.get 49 (by decide); exact OpStep.plain rfl (Step.pick (b := true) (p := (.one (.d (.bool (hashes x.f4))))) (t := 50) rfl rfl (by exact lt_ok rfl) (show Env.ev E (.tmp 46) = _ from g46.trans rfl) (show Env.ev E (.tmp 49) = _ from g49.trans rfl))) ?_
        refine .cons (fun E h => by have g50 := h.get 50 (by decide); exact OpStep.plain rfl (Step.assign (p := (.one (.d (.bool (hashes x.f4))))) (t := 4) rfl rfl (by exact lt_ok rfl) (show Env.ev E (.tmp 50) = _ from g50.trans rfl))) ?_
        exact .nil _ _
       refine TL.nil ?_
       refine T.weaken (E' := { tm := [(4, (.one (.d (.bool (hashes x.f4)))))], rows := [], boxes := [] }) (Env.le_mk ⟨by kernel_rfl, trivial⟩ trivial trivial) ?_
       refine T.ret ?_
       exact ⟨[(false, [.d (.bool (hashes x.f4))])], (.cons rfl .nil), rfl, [], (RetC.rd' (by first | rfl | (congr 1; symm; simp only [inclOk, *, Bool.and_true, Bool.true_and, Bool.and_false, Bool.false_and, decide_true, decide_false, and_true, true_and, and_self, and_false, false_and, Bool.and_self, not_true, not_false, Bool.not_true, Bool.not_false, ge_iff_le, gt_iff_lt, if_true, if_false, Bool.false_eq_true, ite_true, ite_false, reduceIte]; done) | (congr 1; symm; simp_all [inclOk]; done) | (congr 1; symm; simp_all [inclOk]; omega)) .nil)⟩
      ·
       have nn9 := pathLenT_bd (x.f2) (x.f1)
       refine T.draw [⟨5, (.agg [.d (.int .i64 l.f0), .d (.int .i64 l.f1), .d (.int .i64 l.f2), .d (.int .i64 l.f3), .d (.int .i64 l.f4)]), []⟩, ⟨6, (.one (.d (.bool true))), []⟩, ⟨7, (.one (.d (.bool true))), []⟩, ⟨8, (.one (.ptr 3 0)), []⟩, ⟨9, (.one (.d (.int .i64 x.f0))), []⟩, ⟨10, (.one (.d (.bool true))), []⟩, ⟨11, (.one (.d (.bool true))), []⟩, ⟨12, (.one (.d (.bool true))), []⟩, ⟨13, (.one (.ptr 3 1)), []⟩, ⟨14, (.one (.d (.int .i64 x.f1))), []⟩, ⟨15, (.one (.ptr 2 2)), []⟩, ⟨16, (.one (.d (.int .i64 l.f2))), []⟩, ⟨17, (.one (.d (.bool true))), []⟩, ⟨18, (.one (.d (.bool true))), []⟩, ⟨19, (.one (.d (.bool true))), []⟩, ⟨20, (.one (.ptr 3 2)), []⟩, ⟨21, (.one (.d (.int .i64 x.f2))), []⟩, ⟨22, (.one (.ptr 3 1)), []⟩, ⟨23, (.one (.d (.int .i64 x.f1))), []⟩, ⟨24, (.one (.d (.int .i64 (IntKind.i64.wrap (x.f1 - 1))))), []⟩, ⟨25, (.one (.d (.bool true))), []⟩, ⟨26, (.one (.d (.bool true))), []⟩, ⟨27, (.one (.d (.bool true))), []⟩, ⟨28, (.one (.ptr 3 3)), []⟩, ⟨29, (.one (.d (.ints .u8 x.f3))), []⟩, ⟨30, (.one (.d (.int .i64 (x.f3.length : Int)))), []⟩, ⟨31, (.one (.ptr 2 1)), []⟩, ⟨32, (.one (.d (.int .i64 l.f1))), []⟩, ⟨33, (.one (.d (.bool true))), []⟩, ⟨34, (.one (.d (.bool true))), []⟩, ⟨35, (.one (.d (.bool true))), []⟩, ⟨36, (.one (.ptr 3 4)), []⟩, ⟨37, (.one (.d (.bss x.f4))), []⟩, ⟨38, (.one (.d (.int .i64 (x.f4.length : Int)))), []⟩, ⟨39, (.one (.ptr 3 2)), []⟩, ⟨40, (.one (.d (.int .i64 x.f2))), []⟩, ⟨41, (.one (.ptr 3 1)), []⟩, ⟨42, (.one (.d (.int .i64 x.f1))), []⟩, ⟨43, (.one (.d (.int .i64 (pathLenT x.f2 x.f1)))), []⟩, ⟨44, (.one (.d (.bool false))), []⟩, ⟨45, (.one (.d (.bool false))), []⟩, ⟨46, (.one (.d (.bool false))), []⟩, ⟨47, (.one (.und)), []⟩, ⟨48, (.one (.und)), []⟩, ⟨49, (.one (.und)), []⟩, ⟨50, (.one (.d (.bool false))), []⟩, ⟨4, (.one (.d (.bool false))), []⟩] (by kernel_rfl) (by kernel_rfl) ?_ ?_
       ·
        refine .cons (fun E h => by have g2 := h.get 2 (by decide); exact OpStep.plain rfl (Step.load_box_agg (n := 5) (qs := [.d (.int .i64 l.f0), .d (.int .i64 l.f1), .d (.int .i64 l.f2), .d (.int .i64 l.f3), .d (.int .i64 l.f4)]) (t := 5) rfl rfl (by exact lt_ok rfl) (by kernel_rfl) (show Env.ev E (.tmp 2) = _ from g2.trans rfl) (by exact h.box rfl) rfl rfl)) ?_
        refine .cons (fun E h => by have g5 := h.get 5 (by decide); exact OpStep.plain rfl (Step.to (E1 := E.set 6 (.one (.d (.bool (limOk l))))) (congrArg (fun b_ => E.set 6 (.one (.d (.bool b_)))) hb1) (Step.call (f := 146) (xs := [.tmp 5]) (ps := [(.agg [.d (.int .i64 l.f0), .d (.int .i64 l.f1), .d (.int .i64 l.f2), .d (.int .i64 l.f3), .d (.int .i64 l.f4)])]) false (g := .func 146) (t := 6) rfl rfl (by exact lt_ok rfl) rfl (by kernel_rfl) (evs_cons (show Env.ev E (.tmp 5) = _ from g5.trans rfl) (rfl)) (.cons (.agg (.cons (.d _) (.cons (.d _) (.cons (.d _) (.cons (.d _) (.cons (.d _) .nil)))))) .nil) (ok_impl_LimitsOk l) (.inr rfl) (At.freshRows h rfl) (by simp) rfl))) ?_
        refine .cons (fun E h => by have g6 := h.get 6 (by decide); exact OpStep.plain rfl (Step.move (p := (.one (.d (.bool true)))) (t := 7) rfl rfl (by exact lt_ok rfl) (show Env.ev E (.tmp 6) = _ from g6.trans rfl))) ?_
        refine .cons (fun E h => by have g3 := h.get 3 (by decide); have g7 := h.get 7 (by decide); exact OpStep.yes (t := 7) rfl rfl (lt_ok rfl) (g7.trans rfl) (Step.fieldAddr (q := 0) (off := 0) (n := 1) (one := true) (t := 8) rfl rfl (by exact lt_ok rfl) (by kernel_rfl) (Nat.succ_ne_zero _) (show Env.ev E (.tmp 3) = _ from g3.trans rfl))) ?_
        refine .cons (fun E h => by have g7 := h.get 7 (by decide); have g8 := h.get 8 (by decide); exact OpStep.yes (t := 7) rfl rfl (lt_ok rfl) (g7.trans rfl) (Step.load_box (c := .d (.int .i64 x.f0)) (t := 9) rfl rfl (by exact lt_ok rfl) (by kernel_rfl) (show Env.ev E (.tmp 8) = _ from g8.trans rfl) (by exact h.box rfl) rfl)) ?_
        refine .cons (fun E h => by have g7 := h.get 7 (by decide); have g9 := h.get 9 (by decide); exact OpStep.yes (t := 7) rfl rfl (lt_ok rfl) (g7.trans rfl) (Step.to (E1 := E.set 10 (.one (.d (.bool (decide (0 ≤ x.f0 ∧ x.f0 ≤ 1152921504606846975)))))) (congrArg (fun b_ => E.set 10 (.one (.d (.bool b_)))) hb2) (Step.call (f := 147) (xs := [.tmp 9]) (ps := [(.one (.d (.int .i64 x.f0)))]) false (g := .func 147) (t := 10) rfl rfl (by exact lt_ok rfl) rfl (by kernel_rfl) (evs_cons (show Env.ev E (.tmp 9) = _ from g9.trans rfl) (rfl)) (.cons (.one (.d _)) .nil) (ok_impl_isNum x.f0) (.inr rfl) (At.freshRows h rfl) (by simp) rfl))) ?_
        refine .cons (fun E h => by have g7 := h.get 7 (by decide); have g10 := h.get 10 (by decide); exact OpStep.plain rfl (Step.pick (b := true) (p := (.one (.d (.bool true)))) (t := 11) rfl rfl (by exact lt_ok rfl) (show Env.ev E (.tmp 7) = _ from g7.trans rfl) (show Env.ev E (.tmp 10) = _ from g10.trans rfl))) ?_
        refine .cons (fun E h => by have g11 := h.get 11 (by decide); exact OpStep.plain rfl (Step.move (p := (.one (.d (.bool true)))) (t := 12) rfl rfl (by exact lt_ok rfl) (show Env.ev E (.tmp 11) = _ from g11.trans rfl))) ?_
        refine .cons (fun E h => by have g3 := h.get 3 (by decide); have g12 := h.get 12 (by decide); exact OpStep.yes (t := 12) rfl rfl (lt_ok rfl) (g12.trans rfl) (Step.fieldAddr (q := 0) (off := 1) (n := 1) (one := true) (t := 13) rfl rfl (by exact lt_ok rfl) (by kernel_rfl) (Nat.succ_ne_zero _) (show Env.ev E (.tmp 3) = _ from g3.trans rfl))) ?_
        refine .cons (fun E h => by have g12 := h.get 12 (by decide); have g13 := h.get 13 (by decide); exact OpStep.yes (t := 12) rfl rfl (lt_ok rfl) (g12.trans rfl) (Step.load_box (c := .d (.int .i64 x.f1)) (t := 14) rfl rfl (by exact lt_ok rfl) (by kernel_rfl) (show Env.ev E (.tmp 13) = _ from g13.trans rfl) (by exact h.box rfl) rfl)) ?_
        refine .cons (fun E h => by have g2 := h.get 2 (by decide); have g12 := h.get 12 (by decide); exact OpStep.yes (t := 12) rfl rfl (lt_ok rfl) (g12.trans rfl) (Step.fieldAddr (q := 0) (off := 2) (n := 1) (one := true) (t := 15) rfl rfl (by exact lt_ok rfl) (by kernel_rfl) (Nat.succ_ne_zero _) (show Env.ev E (.tmp 2) = _ from g2.trans rfl))) ?_
        refine .cons (fun E h => by have g12 := h.get 12 (by decide); have g15 := h.get 15 (by decide); exact OpStep.yes (t := 12) rfl rfl (lt_ok rfl) (g12.trans rfl) (Step.load_box (c := .d (.int .i64 l.f2)) (t := 16) rfl rfl (by exact lt_ok rfl) (by kernel_rfl) (show Env.ev E (.tmp 15) = _ from g15.trans rfl) (by exact h.box rfl) rfl)) ?_
        refine .cons (fun E h => by have g12 := h.get 12 (by decide); have g14 := h.get 14 (by decide); have g16 := h.get 16 (by decide); exact OpStep.yes (t := 12) rfl rfl (lt_ok rfl) (g12.trans rfl) (Step.to (E1 := E.set 17 (.one (.d (.bool (decide (1 ≤ x.f1 ∧ x.f1 ≤ l.f2)))))) (congrArg (fun b_ => E.set 17 (.one (.d (.bool b_)))) hb3) (Step.call (f := 144) (xs := [.tmp 14, .const (.int .i64 1), .tmp 16]) (ps := [(.one (.d (.int .i64 x.f1))), (.one (.d (.int .i64 1))), (.one (.d (.int .i64 l.f2)))]) false (g := .func 144) (t := 17) rfl rfl (by exact lt_ok rfl) rfl (by kernel_rfl) (evs_cons (show Env.ev E (.tmp 14) = _ from g14.trans rfl) (evs_cons rfl (evs_cons (show Env.ev E (.tmp 16) = _ from g16.trans rfl) (rfl)))) (.cons (.one (.d _)) (.cons (.one (.d _)) (.cons (.one (.d _)) .nil))) (ok_impl_within x.f1 1 l.f2) (.inr rfl) (At.freshRows h rfl) (by simp) rfl))) ?_
        refine .cons (fun E h => by have g12 := h.get 12 (by decide); have g17 := h.get 17 (by decide); exact OpStep.plain rfl (Step.pick (b := true) (p := (.one (.d (.bool true)))) (t := 18) rfl rfl (by exact lt_ok rfl) (show Env.ev E (.tmp 12) = _ from g12.trans rfl) (show Env.ev E (.tmp 17) = _ from g17.trans rfl))) ?_
        refine .cons (fun E h => by have g18 := h.get 18 (by decide); exact OpStep.plain rfl (Step.move (p := (.one (.d (.bool true)))) (t := 19) rfl rfl (by exact lt_ok rfl) (show Env.ev E (.tmp 18) = _ from g18.trans rfl))) ?_
        refine .cons (fun E h => by have g3 := h.get 3 (by decide); have g19 := h.get 19 (by decide); exact OpStep.yes (t := 19) rfl rfl (lt_ok rfl) (g19.trans rfl) (Step.fieldAddr (q := 0) (off := 2) (n := 1) (one := true) (t := 20) rfl rfl (by exact lt_ok rfl) (by kernel_rfl) (Nat.succ_ne_zero _) (show Env.ev E (.tmp 3) = _ from g3.trans rfl))) ?_
        refine .cons (fun E h => by have g19 := h.get 19 (by decide); have g20 := h.get 20 (by decide); exact OpStep.yes (t := 19) rfl rfl (lt_ok rfl) (g19.trans rfl) (Step.load_box (c := .d (.int .i64 x.f2)) (t := 21) rfl rfl (by exact lt_ok rfl) (by kernel_rfl) (show Env.ev E (.tmp 20) = _ from g20.trans rfl) (by exact h.box rfl) rfl)) ?_
        refine .cons (fun E h => by have g3 := h.get 3 (by decide); have g19 := h.get 19 (by decide); exact OpStep.yes (t := 19) rfl rfl (lt_ok rfl) (g19.trans rfl) (Step.fieldAddr (q := 0) (off := 1) (n := 1) (one := true) (t := 22) rfl rfl (by exact lt_ok rfl) (by kernel_rfl) (Nat.succ_ne_zero _) (show Env.ev E (.tmp 3) = _ from g3.trans rfl))) ?_
        refine .cons (fun E h => by have g19 := h.get 19 (by decide); have g22 := h.get 22 (by decide); exact OpStep.yes (t := 19) rfl rfl (lt_ok rfl) (g19.trans rfl) (Step.load_box (c := .d (.int .i64 x.f1)) (t := 23) rfl rfl (by exact lt_ok rfl) (by kernel_rfl) (show Env.ev E (.tmp 22) = _ from g22.trans rfl) (by exact h.box rfl) rfl)) ?_
        refine .cons (fun E h => by have g19 := h.get 19 (by decide); have g23 := h.get 23 (by decide); exact OpStep.yes (t := 19) rfl rfl (lt_ok rfl) (g19.trans rfl) (Step.bin (r := .int .i64 (IntKind.i64.wrap (x.f1 - 1))) (t := 24) rfl rfl (by exact lt_ok rfl) (show Env.ev E (.tmp 23) = _ from g23.trans rfl) rfl (Bin.sub (a := x.f1) (b := 1) (rfl)))) ?_
        refine .cons (fun E h => by have g19 := h.get 19 (by decide); have g21 := h.get 21 (by decide); have g24 := h.get 24 (by decide); exact OpStep.yes (t := 19) rfl rfl (lt_ok rfl) (g19.trans rfl) (Step.to (E1 := E.set 25 (.one (.d (.bool (decide (0 ≤ x.f2 ∧ x.f2 ≤ (IntKind.i64.wrap (x.f1 - 1)))))))) (congrArg (fun b_ => E.set 25 (.one (.d (.bool b_)))) hb4) (Step.call (f := 144) (xs := [.tmp 21, .const (.int .i64 0), .tmp 24]) (ps := [(.one (.d (.int .i64 x.f2))), (.one (.d (.int .i64 0))), (.one (.d (.int .i64 (IntKind.i64.wrap (x.f1 - 1)))))]) false (g := .func 144) (t := 25) rfl rfl (by exact lt_ok rfl) rfl (by kernel_rfl) (evs_cons (show Env.ev E (.tmp 21) = _ from g21.trans rfl) (evs_cons rfl (evs_cons (show Env.ev E (.tmp 24) = _ from g24.trans rfl) (rfl)))) (.cons (.one (.d _)) (.cons (.one (.d _)) (.cons (.one (.d _)) .nil))) (ok_impl_within x.f2 0 (IntKind.i64.wrap (x.f1 - 1))) (.inr rfl) (At.freshRows h rfl) (by simp) rfl))) ?_
        refine .cons (fun E h => by have g19 := h.get 19 (by decide); have g25 := h.get 25 (by decide); exact OpStep.plain rfl (Step.pick (b := true) (p := (.one (.d (.bool true)))) (t := 26) rfl rfl (by exact lt_ok rfl) (show Env.ev E (.tmp 19) = _ from g19.trans rfl) (show Env.ev E (.tmp 25) = _ from g25.trans rfl))) ?_
        refine .cons (fun E h => by have g26 := h.get 26 (by decide); exact OpStep.plain rfl (Step.move (p := (.one (.d (.bool true)))) (t := 27) rfl rfl (by exact lt_ok rfl) (show Env.ev E (.tmp 26) = _ from g26.trans rfl))) ?_
        refine .cons (fun E h => by have g3 := h.get 3 (by decide); have g27 := h.get 27 (by decide); exact OpStep.yes (t := 27) rfl rfl (lt_ok rfl) (g27.trans rfl) (Step.fieldAddr (q := 0) (off := 3) (n := 1) (one := true) (t := 28) rfl rfl (by exact lt_ok rfl) (by kernel_rfl) (Nat.succ_ne_zero _) (show Env.ev E (.tmp 3) = _ from g3.trans rfl))) ?_
        refine .cons (fun E h => by have g27 := h.get 27 (by decide); have g28 := h.get 28 (by decide); exact OpStep.yes (t := 27) rfl rfl (lt_ok rfl) (g27.trans rfl) (Step.load_box (c := .d (.ints .u8 x.f3)) (t := 29) rfl rfl (by exact lt_ok rfl) (by kernel_rfl) (show Env.ev E (.tmp 28) = _ from g28.trans rfl) (by exact h.box rfl) rfl)) ?_
        refine .cons (fun E h => by have g27 := h.get 27 (by decide); have g29 := h.get 29 (by decide); exact OpStep.yes (t := 27) rfl rfl (lt_ok rfl) (g27.trans rfl) (Step.len (e := 5) (z := 1) (d := (.ints .u8 x.f3)) (t := 30) rfl rfl (by exact lt_ok rfl) (by kernel_rfl) (show Env.ev E (.tmp 29) = _ from g29.trans rfl) rfl)) ?_
        refine .cons (fun E h => by have g2 := h.get 2 (by decide); have g27 := h.get 27 (by decide); exact OpStep.yes (t := 27) rfl rfl (lt_ok rfl) (g27.trans rfl) (Step.fieldAddr (q := 0) (off := 1) (n := 1) (one := true) (t := 31) rfl rfl (by exact lt_ok rfl) (by kernel_rfl) (Nat.succ_ne_zero _) (show Env.ev E (.tmp 2) = _ from g2.trans rfl))) ?_
        refine .cons (fun E h => by have g27 := h.get 27 (by decide); have g31 := h.get 31 (by decide); exact OpStep.yes (t := 27) rfl rfl (lt_ok rfl) (g27.trans rfl) (Step.load_box (c := .d (.int .i64 l.f1)) (t := 32) rfl rfl (by exact lt_ok rfl) (by kernel_rfl) (show Env.ev E (.tmp 31) = _ from g31.trans rfl) (by exact h.box rfl) rfl)) ?_
        refine .cons (fun E h => by have g27 := h.get 27 (by decide); have g30 := h.get 30 (by decide); have g32 := h.get 32 (by decide); exact OpStep.yes (t := 27) rfl rfl (lt_ok rfl) (g27.trans rfl) (Step.to (E1 := E.set 33 (.one (.d (.bool (decide ((x.f3.length : Int) ≤ l.f1)))))) (congrArg (fun b_ => E.set 33 (.one (.d (.bool b_)))) hb5) (Step.bin (t := 33) rfl rfl (by exact lt_ok rfl) (show Env.ev E (.tmp 30) = _ from g30.trans rfl) (show Env.ev E (.tmp 32) = _ from g32.trans rfl) (Bin.leq (k := .i64) (a := (x.f3.length : Int)) (b := l.f1))))) ?_
        refine .cons (fun E h => by have g27 := h.get 27 (by decide); have g33 := h.get 33 (by decide); exact OpStep.plain rfl (Step.pick (b := true) (p := (.one (.d (.bool true)))) (t := 34) rfl rfl (by exact lt_ok rfl) (show Env.ev E (.tmp 27) = _ from g27.trans rfl) (show Env.ev E (.tmp 33) = _ from g33.trans rfl))) ?_
        refine .cons (fun E h => by have g34 := h.get 34 (by decide); exact OpStep.plain rfl (Step.move (p := (.one (.d (.bool true)))) (t := 35) rfl rfl (by exact lt_ok rfl) (show Env.ev E (.tmp 34) = _ from g34.trans rfl))) ?_
        refine .cons (fun E h => by have g3 := h.get 3 (by decide); have g35 := h.get 35 (by decide); exact OpStep.yes (t := 35) rfl rfl (lt_ok rfl) (g35.trans rfl) (Step.fieldAddr (q := 0) (off := 4) (n := 1) (one := true) (t := 36) rfl rfl (by exact lt_ok rfl) (by kernel_rfl) (Nat.succ_ne_zero _) (show Env.ev E (.tmp 3) = _ from g3.trans rfl))) ?_
        refine .cons (fun E h => by have g35 := h.get 35 (by decide); have g36 := h.get 36 (by decide); exact OpStep.yes (t := 35) rfl rfl (lt_ok rfl) (g35.trans rfl) (Step.load_box (c := .d (.bss x.f4)) (t := 37) rfl rfl (by exact lt_ok rfl) (by kernel_rfl) (show Env.ev E (.tmp 36) = _ from g36.trans rfl) (by exact h.box rfl) rfl)) ?_
        refine .cons (fun E h => by have g35 := h.get 35 (by decide); have g37 := h.get 37 (by decide); exact OpStep.yes (t := 35) rfl rfl (lt_ok rfl) (g35.trans rfl) (Step.len (e := 22) (z := 1) (d := (.bss x.f4)) (t := 38) rfl rfl (by exact lt_ok rfl) (by kernel_rfl) (show Env.ev E (.tmp 37) = _ from g37.trans rfl) rfl)) ?_
        refine .cons (fun E h => by have g3 := h.get 3 (by decide); have g35 := h.get 35 (by decide); exact OpStep.yes (t := 35) rfl rfl (lt_ok rfl) (g35.trans rfl) (Step.fieldAddr (q := 0) (off := 2) (n := 1) (one := true) (t := 39) rfl rfl (by exact lt_ok rfl) (by kernel_rfl) (Nat.succ_ne_zero _) (show Env.ev E (.tmp 3) = _ from g3.trans rfl))) ?_
        refine .cons (fun E h => by have g35 := h.get 35 (by decide); have g39 := h.get 39 (by decide); exact OpStep.yes (t := 35) rfl rfl (lt_ok rfl) (g35.trans rfl) (Step.load_box (c := .d (.int .i64 x.f2)) (t := 40) rfl rfl (by exact lt_ok rfl) (by kernel_rfl) (show Env.ev E (.tmp 39) = _ from g39.trans rfl) (by exact h.box rfl) rfl)) ?_
        refine .cons (fun E h => by have g3 := h.get 3 (by decide); have g35 := h.get 35 (by decide); exact OpStep.yes (t := 35) rfl rfl (lt_ok rfl) (g35.trans rfl) (Step.fieldAddr (q := 0) (off := 1) (n := 1) (one := true) (t := 41) rfl rfl (by exact lt_ok rfl) (by kernel_rfl) (Nat.succ_ne_zero _) (show Env.ev E (.tmp 3) = _ from g3.trans rfl))) ?_
        refine .cons (fun E h => by have g35 := h.get 35 (by decide); have g41 := h.get 41 (by decide); exact OpStep.yes (t := 35) rfl rfl (lt_ok rfl) (g35.trans rfl) (Step.load_box (c := .d (.int .i64 x.f1)) (t := 42) rfl rfl (by exact lt_ok rfl) (by kernel_rfl) (show Env.ev E (.tmp 41) = _ from g41.trans rfl) (by exact h.box rfl) rfl)) ?_
        refine .cons (fun E h => by have g35 := h.get 35 (by decide); have g40 := h.get 40 (by decide); have g42 := h.get 42 (by decide); exact OpStep.yes (t := 35) rfl rfl (lt_ok rfl) (g35.trans rfl) (Step.call (f := 162) (xs := [.tmp 40, .tmp 42]) (ps := [(.one (.d (.int .i64 x.f2))), (.one (.d (.int .i64 x.f1)))]) false (g := .func 162) (t := 43) rfl rfl (by exact lt_ok rfl) rfl (by kernel_rfl) (evs_cons (show Env.ev E (.tmp 40) = _ from g40.trans rfl) (evs_cons (show Env.ev E (.tmp 42) = _ from g42.trans rfl) (rfl))) (.cons (.one (.d _)) (.cons (.one (.d _)) .nil)) (ok_impl_PathLen x.f2 x.f1) (.inr rfl) (At.freshRows h rfl) (by simp) rfl)) ?_
        refine .cons (fun E h => by have g35 := h.get 35 (by decide); have g38 := h.get 38 (by decide); have g43 := h.get 43 (by decide); exact OpStep.yes (t := 35) rfl rfl (lt_ok rfl) (g35.trans rfl) (Step.to (E1 := E.set 44 (.one (.d (.bool (decide ((x.f4.length : Int) = (pathLenT x.f2 x.f1))))))) (congrArg (fun b_ => E.set 44 (.one (.d (.bool b_)))) hb7) (Step.bin (t := 44) rfl rfl (by exact lt_ok rfl) (show Env.ev E (.tmp 38) = _ from g38.trans rfl) (show Env.ev E (.tmp 43) = _ from g43.trans rfl) (Bin.eql (k := .i64) (a := (x.f4.length : Int)) (b := (pathLenT x.f2 x.f1)))))) ?_
        refine .cons (fun E h => by have g35 := h.get 35 (by decide); have g44 := h.get 44 (by decide); exact OpStep.plain rfl (Step.pick (b := true) (p := (.one (.d (.bool false)))) (t := 45) rfl rfl (by exact lt_ok rfl) (show Env.ev E (.tmp 35) = _ from g35.trans rfl) (show Env.ev E (.tmp 44) = _ from g44.trans rfl))) ?_
        refine .cons (fun E h => by have g45 := h.get 45 (by decide); exact OpStep.plain rfl (Step.move (p := (.one (.d (.bool false)))) (t := 46) rfl rfl (by exact lt_ok rfl) (show Env.ev E (.tmp 45) = _ from g45.trans rfl))) ?_
        refine .cons (fun E h => OpStep.no (t := 46) rfl rfl (lt_ok rfl) ((h.get 46 (by decide)).trans rfl) (by decide) rfl (lt_ok rfl)) ?_
        refine .cons (fun E h => OpStep.no (t := 46) rfl rfl (lt_ok rfl) ((h.get 46 (by decide)).trans rfl) (by decide) rfl (lt_ok rfl)) ?_
        refine .cons (fun E h => OpStep.no (t := 46) rfl rfl (lt_ok rfl) ((h.get 46 (by decide)).trans rfl) (by decide) rfl (lt_ok rfl)) ?_
        refine .cons (fun E h => by have g46 := h.get 46 (by decide); have g49 := h.get 49 (by decide); exact OpStep.plain rfl (Step.pick (b := false) (p := (.one (.d (.bool false)))) (t := 50) rfl rfl (by exact lt_ok rfl) (show Env.ev E (.tmp 46) = _ from g46.trans rfl) rfl)) ?_
        refine .cons (fun E h => by have g50 := h.get 50 (by decide); exact OpStep.plain rfl (Step.assign (p := (.one (.d (.bool false)))) (t := 4) rfl rfl (by exact lt_ok rfl) (show Env.ev E (.tmp 50) = _ from g50.trans rfl))) ?_
        exact .nil _ _
       refine TL.nil ?_
       refine T.weaken (E' := { tm := [(4, (.one (.d (.bool false))))], rows := [], boxes := [] }) (Env.le_mk ⟨by kernel_rfl, trivial⟩ trivial trivial) ?_
       refine T.ret ?_
       exact ⟨[(false, [.d (.bool false)])], (.cons rfl .nil), rfl, [], (RetC.rd' (by first | rfl | (congr 1; symm; simp only [inclOk, *, Bool.and_true, Bool.true_and, Bool.and_false, Bool.false_and, decide_true, decide_false, and_true, true_and, and_self, and_false, false_and, Bool.and_self, not_true, not_false, Bool.not_true, Bool.not_false, ge_iff_le, gt_iff_lt, if_true, if_false, Bool.false_eq_true, ite_true, ite_false, reduceIte]; done) | (congr 1; symm; simp_all [inclOk]; done) | (congr 1; symm; simp_all [inclOk]; omega)) .nil)⟩
     ·
      refine T.draw [⟨5, (.agg [.d (.int .i64 l.f0), .d (.int .i64 l.f1), .d (.int .i64 l.f2), .d (.int .i64 l.f3), .d (.int .i64 l.f4)]), []⟩, ⟨6, (.one (.d (.bool true))), []⟩, ⟨7, (.one (.d (.bool true))), []⟩, ⟨8, (.one (.ptr 3 0)), []⟩, ⟨9, (.one (.d (.int .i64 x.f0))), []⟩, ⟨10, (.one (.d (.bool true))), []⟩, ⟨11, (.one (.d (.bool true))), []⟩, ⟨12, (.one (.d (.bool true))), []⟩, ⟨13, (.one (.ptr 3 1)), []⟩, ⟨14, (.one (.d (.int .i64 x.f1))), []⟩, ⟨15, (.one (.ptr 2 2)), []⟩, ⟨16, (.one (.d (.int .i64 l.f2))), []⟩, ⟨17, (.one (.d (.bool true))), []⟩, ⟨18, (.one (.d (.bool true))), []⟩, ⟨19, (.one (.d (.bool true))), []⟩, ⟨20, (.one (.ptr 3 2)), []⟩, ⟨21, (.one (.d (.int .i64 x.f2))), []⟩, ⟨22, (.one (.ptr 3 1)), []⟩, ⟨23, (.one (.d (.int .i64 x.f1))), []⟩, ⟨24, (.one (.d (.int .i64 (IntKind.i64.wrap (x.f1 - 1))))), []⟩, ⟨25, (.one (.d (.bool true))), []⟩, ⟨26, (.one (.d (.bool true))), []⟩, ⟨27, (.one (.d (.bool true))), []⟩, ⟨28, (.one (.ptr 3 3)), []⟩, ⟨29, (.one (.d (.ints .u8 x.f3))), []⟩, ⟨30, (.one (.d (.int .i64 (x.f3.length : Int)))), []⟩, ⟨31, (.one (.ptr 2 1)), []⟩, ⟨32, (.one (.d (.int .i64 l.f1))), []⟩, ⟨33, (.one (.d (.bool false))), []⟩, ⟨34, (.one (.d (.bool false))), []⟩, ⟨35, (.one (.d (.bool false))), []⟩, ⟨36, (.one (.und)), []⟩, ⟨37, (.one (.und)), []⟩, ⟨38, (.one (.und)), []⟩, ⟨39, (.one (.und)), []⟩, ⟨40, (.one (.und)), []⟩, ⟨41, (.one (.und)), []⟩, ⟨42, (.one (.und)), []⟩, ⟨43, (.one (.und)), []⟩, ⟨44, (.one (.und)), []⟩, ⟨45, (.one (.d (.bool false))), []⟩, ⟨46, (.one (.d (.bool false))), []⟩, ⟨47, (.one (.und)), []⟩, ⟨48, (.one (.und)), []⟩, ⟨49, (.one (.und)), []⟩, ⟨50, (.one (.d (.bool false))), []⟩, ⟨4, (.one (.d (.bool false))), []⟩] (by kernel_rfl) (by kernel_rfl) ?_ ?_
      ·
       refine .cons (fun E h => by have g2 := h.get 2 (by decide); exact OpStep.plain rfl (Step.load_box_agg (n := 5) (qs := [.d (.int .i64 l.f0), .d (.int .i64 l.f1), .d (.int .i64 l.f2), .d (.int .i64 l.f3), .d (.int .i64 l.f4)]) (t := 5) rfl rfl (by exact lt_ok rfl) (by kernel_rfl) (show Env.ev E (.tmp 2) = _ from g2.trans rfl) (by exact h.box rfl) rfl rfl)) ?_
       refine .cons (fun E h => by have g5 := h.get 5 (by decide); exact OpStep.plain rfl (Step.to (E1 := E.set 6 (.one (.d (.bool (limOk l))))) (congrArg (fun b_ => E.set 6 (.one (.d (.bool b_)))) hb1) (Step.call (f := 146) (xs := [.tmp 5]) (ps := [(.agg [.d (.int .i64 l.f0), .d (.int .i64 l.f1), .d (.int .i64 l.f2), .d (.int .i64 l.f3), .d (.int .i64 l.f4)])]) false (g := .func 146) (t := 6) rfl rfl (by exact lt_ok rfl) rfl (by kernel_rfl) (evs_cons (show Env.ev E (.tmp 5) = _ from g5.trans rfl) (rfl)) (.cons (.agg (.cons (.d _) (.cons (.d _) (.cons (.d _) (.cons (.d _) (.cons (.d _) .nil)))))) .nil) (ok_impl_LimitsOk l) (.inr rfl) (At.freshRows h rfl) (by simp) rfl))) ?_
       refine .cons (fun E h => by have g6 := h.get 6 (by decide); exact OpStep.plain rfl (Step.move (p := (.one (.d (.bool true)))) (t := 7) rfl rfl (by exact lt_ok rfl) (show Env.ev E (.tmp 6) = _ from g6.trans rfl))) ?_
       refine .cons (fun E h => by have g3 := h.get 3 (by decide); have g7 := h.get 7 (by decide); exact OpStep.yes (t := 7) rfl rfl (lt_ok rfl) (g7.trans rfl) (Step.fieldAddr (q := 0) (off := 0) (n := 1) (one := true) (t := 8) rfl rfl (by exact lt_ok rfl) (by kernel_rfl) (Nat.succ_ne_zero _) (show Env.ev E (.tmp 3) = _ from g3.trans rfl))) ?_
       refine .cons (fun E h => by have g7 := h.get 7 (by decide); have g8 := h.get 8 (by decide); exact OpStep.yes (t := 7) rfl rfl (lt_ok rfl) (g7.trans rfl) (Step.load_box (c := .d (.int .i64 x.f0)) (t := 9) rfl rfl (by exact lt_ok rfl) (by kernel_rfl) (show Env.ev E (.tmp 8) = _ from g8.trans rfl) (by exact h.box rfl) rfl)) ?_
       refine .cons (fun E h => by have g7 := h.get 7 (by decide); have g9 := h.get 9 (by decide); exact OpStep.yes (t := 7) rfl rfl (lt_ok rfl) (g7.trans rfl) (Step.to (E1 := E.set 10 (.one (.d (.bool (decide (0 ≤ x.f0 ∧ x.f0 ≤ 1152921504606846975)))))) (congrArg (fun b_ => E.set 10 (.one (.d (.bool b_)))) hb2) (Step.call (f := 147) (xs := [.tmp 9]) (ps := [(.one (.d (.int .i64 x.f0)))]) false (g := .func 147) (t := 10) rfl rfl (by exact lt_ok rfl) rfl (by kernel_rfl) (evs_cons (show Env.ev E (.tmp 9) = _ from g9.trans rfl) (rfl)) (.cons (.one (.d _)) .nil) (ok_impl_isNum x.f0) (.inr rfl) (At.freshRows h rfl) (by simp) rfl))) ?_
       refine .cons (fun E h => by have g7 := h.get 7 (by decide); have g10 := h.get 10 (by decide); exact OpStep.plain rfl (Step.pick (b := true) (p := (.one (.d (.bool true)))) (t := 11) rfl rfl (by exact lt_ok rfl) (show Env.ev E (.tmp 7) = _ from g7.trans rfl) (show Env.ev E (.tmp 10) = _ from g10.trans rfl))) ?_
       refine .cons (fun E h => by have g11 := h.get 11 (by decide); exact OpStep.plain rfl (Step.move (p := (.one (.d (.bool true)))) (t := 12) rfl rfl (by exact lt_ok rfl) (show Env.ev E (.tmp 11) = _ from g11.trans rfl))) ?_
       refine .cons (fun E h => by have g3 := h.get 3 (by decide); have g12 := h.get 12 (by decide); exact OpStep.yes (t := 12) rfl rfl (lt_ok rfl) (g12.trans rfl) (Step.fieldAddr (q := 0) (off := 1) (n := 1) (one := true) (t := 13) rfl rfl (by exact lt_ok rfl) (by kernel_rfl) (Nat.succ_ne_zero _) (show Env.ev E (.tmp 3) = _ from g3.trans rfl))) ?_
       refine .cons (fun E h => by have g12 := h.get 12 (by decide); have g13 := h.get 13 (by decide); exact OpStep.yes (t := 12) rfl rfl (lt_ok rfl) (g12.trans rfl) (Step.load_box (c := .d (.int .i64 x.f1)) (t := 14) rfl rfl (by exact lt_ok rfl) (by kernel_rfl) (show Env.ev E (.tmp 13) = _ from g13.trans rfl) (by exact h.box rfl) rfl)) ?_
       refine .cons (fun E h => by have g2 := h.get 2 (by decide); have g12 := h.get 12 (by decide); exact OpStep.yes (t := 12) rfl rfl (lt_ok rfl) (g12.trans rfl) (Step.fieldAddr (q := 0) (off := 2) (n := 1) (one := true) (t := 15) rfl rfl (by exact lt_ok rfl) (by kernel_rfl) (Nat.succ_ne_zero _) (show Env.ev E (.tmp 2) = _ from g2.trans rfl))) ?_
       refine .cons (fun E h => by have g12 := h.get 12 (by decide); have g15 := h.get 15 (by decide); exact OpStep.yes (t := 12) rfl rfl (lt_ok rfl) (g12.trans rfl) (Step.load_box (c := .d (.int .i64 l.f2)) (t := 16) rfl rfl (by exact lt_ok rfl) (by kernel_rfl) (show Env.ev E (.tmp 15) = _ from g15.trans rfl) (by exact h.box rfl) rfl)) ?_
       refine .cons (fun E h => by have g12 := h.get 12 (by decide); have g14 := h.get 14 (by decide); have g16 := h.get 16 (by decide); exact OpStep.yes (t := 12) rfl rfl (lt_ok rfl) (g12.trans rfl) (Step.to (E1 := E.set 17 (.one (.d (.bool (decide (1 ≤ x.f1 ∧ x.f1 ≤ l.f2)))))) (congrArg (fun b_ => E.set 17 (.one (.d (.bool b_)))) hb3) (Step.call (f := 144) (xs := [.tmp 14, .const (.int .i64 1), .tmp 16]) (ps := [(.one (.d (.int .i64 x.f1))), (.one (.d (.int .i64 1))), (.one (.d (.int .i64 l.f2)))]) false (g := .func 144) (t := 17) rfl rfl (by exact lt_ok rfl) rfl (by kernel_rfl) (evs_cons (show Env.ev E (.tmp 14) = _ from g14.trans rfl) (evs_cons rfl (evs_cons (show Env.ev E (.tmp 16) = _ from g16.trans rfl) (rfl)))) (.cons (.one (.d _)) (.cons (.one (.d _)) (.cons (.one (.d _)) .nil))) (ok_impl_within x.f1 1 l.f2) (.inr rfl) (At.freshRows h rfl) (by simp) rfl))) ?_
       refine .cons (fun E h => by have g12 := h.get 12 (by decide); have g17 := h.get 17 (by decide); exact OpStep.plain rfl (Step.pick (b := true) (p := (.one (.d (.bool true)))) (t := 18) rfl rfl (by exact lt_ok rfl) (show Env.ev E (.tmp 12) = _ from g12.trans rfl) (show Env.ev E (.tmp 17) = _ from g17.trans rfl))) ?_
       refine .cons (fun E h => by have g18 := h.get 18 (by decide); exact OpStep.plain rfl (Step.move (p := (.one (.d (.bool true)))) (t := 19) rfl rfl (by exact lt_ok rfl) (show Env.ev E (.tmp 18) = _ from g18.trans rfl))) ?_
       refine .cons (fun E h => by have g3 := h.get 3 (by decide); have g19 := h.get 19 (by decide); exact OpStep.yes (t := 19) rfl rfl (lt_ok rfl) (g19.trans rfl) (Step.fieldAddr (q := 0) (off := 2) (n := 1) (one := true) (t := 20) rfl rfl (by exact lt_ok rfl) (by kernel_rfl) (Nat.succ_ne_zero _) (show Env.ev E (.tmp 3) = _ from g3.trans rfl))) ?_
       refine .cons (fun E h => by have g19 := h.get 19 (by decide); have g20 := h.get 20 (by decide); exact OpStep.yes (t := 19) rfl rfl (lt_ok rfl) (g19.trans rfl) (Step.load_box (c := .d (.int .i64 x.f2)) (t := 21) rfl rfl (by exact lt_ok rfl) (by kernel_rfl) (show Env.ev E (.tmp 20) = _ from g20.trans rfl) (by exact h.box rfl) rfl)) ?_
       refine .cons (fun E h => by have g3 := h.get 3 (by decide); have g19 := h.get 19 (by decide); exact OpStep.yes (t := 19) rfl rfl (lt_ok rfl) (g19.trans rfl) (Step.fieldAddr (q := 0) (off := 1) (n := 1) (one := true) (t := 22) rfl rfl (by exact lt_ok rfl) (by kernel_rfl) (Nat.succ_ne_zero _) (show Env.ev E (.tmp 3) = _ from g3.trans rfl))) ?_
       refine .cons (fun E h => by have g19 := h.get 19 (by decide); have g22 := h.get 22 (by decide); exact OpStep.yes (t := 19) rfl rfl (lt_ok rfl) (g19.trans rfl) (Step.load_box (c := .d (.int .i64 x.f1)) (t := 23) rfl rfl (by exact lt_ok rfl) (by kernel_rfl) (show Env.ev E (.tmp 22) = _ from g22.trans rfl) (by exact h.box rfl) rfl)) ?_
       refine .cons (fun E h => by have g19 := h.get 19 (by decide); have g23 := h.get 23 (by decide); exact OpStep.yes (t := 19) rfl rfl (lt_ok rfl) (g19.trans rfl) (Step.bin (r := .int .i64 (IntKind.i64.wrap (x.f1 - 1))) (t := 24) rfl rfl (by exact lt_ok rfl) (show Env.ev E (.tmp 23) = _ from g23.trans rfl) rfl (Bin.sub (a := x.f1) (b := 1) (rfl)))) ?_
       refine .cons (fun E h => by have g19 := h.get 19 (by decide); have g21 := h.get 21 (by decide); have g24 := h.get 24 (by decide); exact OpStep.yes (t := 19) rfl rfl (lt_ok rfl) (g19.trans rfl) (Step.to (E1 := E.set 25 (.one (.d (.bool (decide (0 ≤ x.f2 ∧ x.f2 ≤ (IntKind.i64.wrap (x.f1 - 1)))))))) (congrArg (fun b_ => E.set 25 (.one (.d (.bool b_)))) hb4) (Step.call (f := 144) (xs := [.tmp 21, .const (.int .i64 0), .tmp 24]) (ps := [(.one (.d (.int .i64 x.f2))), (.one (.d (.int .i64 0))), (.one (.d (.int .i64 (IntKind.i64.wrap (x.f1 - 1)))))]) false (g := .func 144) (t := 25) rfl rfl (by exact lt_ok rfl) rfl (by kernel_rfl) (evs_cons (show Env.ev E (.tmp 21) = _ from g21.trans rfl) (evs_cons rfl (evs_cons (show Env.ev E (.tmp 24) = _ from g24.trans rfl) (rfl)))) (.cons (.one (.d _)) (.cons (.one (.d _)) (.cons (.one (.d _)) .nil))) (ok_impl_within x.f2 0 (IntKind.i64.wrap (x.f1 - 1))) (.inr rfl) (At.freshRows h rfl) (by simp) rfl))) ?_
       refine .cons (fun E h => by have g19 := h.get 19 (by decide); have g25 := h.get 25 (by decide); exact OpStep.plain rfl (Step.pick (b := true) (p := (.one (.d (.bool true)))) (t := 26) rfl rfl (by exact lt_ok rfl) (show Env.ev E (.tmp 19) = _ from g19.trans rfl) (show Env.ev E (.tmp 25) = _ from g25.trans rfl))) ?_
       refine .cons (fun E h => by have g26 := h.get 26 (by decide); exact OpStep.plain rfl (Step.move (p := (.one (.d (.bool true)))) (t := 27) rfl rfl (by exact lt_ok rfl) (show Env.ev E (.tmp 26) = _ from g26.trans rfl))) ?_
       refine .cons (fun E h => by have g3 := h.get 3 (by decide); have g27 := h.get 27 (by decide); exact OpStep.yes (t := 27) rfl rfl (lt_ok rfl) (g27.trans rfl) (Step.fieldAddr (q := 0) (off := 3) (n := 1) (one := true) (t := 28) rfl rfl (by exact lt_ok rfl) (by kernel_rfl) (Nat.succ_ne_zero _) (show Env.ev E (.tmp 3) = _ from g3.trans rfl))) ?_
       refine .cons (fun E h => by have g27 := h.get 27 (by decide); have g28 := h.get 28 (by decide); exact OpStep.yes (t := 27) rfl rfl (lt_ok rfl) (g27.trans rfl) (Step.load_box (c := .d (.ints .u8 x.f3)) (t := 29) rfl rfl (by exact lt_ok rfl) (by kernel_rfl) (show Env.ev E (.tmp 28) = _ from g28.trans rfl) (by exact h.box rfl) rfl)) ?_
       refine .cons (fun E h => by have g27 := h.get 27 (by decide); have g29 := h.get 29 (by decide); exact OpStep.yes (t := 27) rfl rfl (lt_ok rfl) (g27.trans rfl) (Step.len (e := 5) (z := 1) (d := (.ints .u8 x.f3)) (t := 30) rfl rfl (by exact lt_ok rfl) (by kernel_rfl) (show Env.ev E (.tmp 29) = _ from g29.trans rfl) rfl)) ?_
       refine .cons (fun E h => by have g2 := h.get 2 (by decide); have g27 := h.get 27 (by decide); exact OpStep.yes (t := 27) rfl rfl (lt_ok rfl) (g27.trans rfl) (Step.fieldAddr (q := 0) (off := 1) (n := 1) (one := true) (t := 31) rfl rfl (by exact lt_ok rfl) (by kernel_rfl) (Nat.succ_ne_zero _) (show Env.ev E (.tmp 2) = _ from g2.trans rfl))) ?_
       refine .cons (fun E h => by have g27 := h.get 27 (by decide); have g31 := h.get 31 (by decide); exact OpStep.yes (t := 27) rfl rfl (lt_ok rfl) (g27.trans rfl) (Step.load_box (c := .d (.int .i64 l.f1)) (t := 32) rfl rfl (by exact lt_ok rfl) (by kernel_rfl) (show Env.ev E (.tmp 31) = _ from g31.trans rfl) (by exact h.box rfl) rfl)) ?_
       refine .cons (fun E h => by have g27 := h.get 27 (by decide); have g30 := h.get 30 (by decide); have g32 := h.get 32 (by decide); exact OpStep.yes (t := 27) rfl rfl (lt_ok rfl) (g27.trans rfl) (Step.to (E1 := E.set 33 (.one (.d (.bool (decide ((x.f3.length : Int) ≤ l.f1)))))) (congrArg (fun b_ => E.set 33 (.one (.d (.bool b_)))) hb5) (Step.bin (t := 33) rfl rfl (by exact lt_ok rfl) (show Env.ev E (.tmp 30) = _ from g30.trans rfl) (show Env.ev E (.tmp 32) = _ from g32.trans rfl) (Bin.leq (k := .i64) (a := (x.f3.length : Int)) (b := l.f1))))) ?_
       refine .cons (fun E h => by have g27 := h.get 27 (by decide); have g33 := h.get 33 (by decide); exact OpStep.plain rfl (Step.pick (b := true) (p := (.one (.d (.bool false)))) (t := 34) rfl rfl (by exact lt_ok rfl) (show Env.ev E (.tmp 27) = _ from g27.trans rfl) (show Env.ev E (.tmp 33) = _ from g33.trans rfl))) ?_
       refine .cons (fun E h => by have g34 := h.get 34 (by decide); exact OpStep.plain rfl (Step.move (p := (.one (.d (.bool false)))) (t := 35) rfl rfl (by exact lt_ok rfl) (show Env.ev E (.tmp 34) = _ from g34.trans rfl))) ?_
       refine .cons (fun E h => OpStep.no (t := 35) rfl rfl (lt_ok rfl) ((h.get 35 (by decide)).trans rfl) (by decide) rfl (lt_ok rfl)) ?_
       refine .cons (fun E h => OpStep.no (t := 35) rfl rfl (lt_ok rfl) ((h.get 35 (by decide)).trans rfl) (by decide) rfl (lt_ok rfl)) ?_
       refine .cons (fun E h => OpStep.no (t := 35) rfl rfl (lt_ok rfl) ((h.get 35 (by decide)).trans rfl) (by decide) rfl (lt_ok rfl)) ?_
       refine .cons (fun E h => OpStep.no (t := 35) rfl rfl (lt_ok rfl) ((h.get 35 (by decide)).trans rfl) (by decide) rfl (lt_ok rfl)) ?_
       refine .cons (fun E h => OpStep.no (t := 35) rfl rfl (lt_ok rfl) ((h.get 35 (by decide)).trans rfl) (by decide) rfl (lt_ok rfl)) ?_
       refine .cons (fun E h => OpStep.no (t := 35) rfl rfl (lt_ok rfl) ((h.get 35 (by decide)).trans rfl) (by decide) rfl (lt_ok rfl)) ?_
       refine .cons (fun E h => OpStep.no (t := 35) rfl rfl (lt_ok rfl) ((h.get 35 (by decide)).trans rfl) (by decide) rfl (lt_ok rfl)) ?_
       refine .cons (fun E h => OpStep.no (t := 35) rfl rfl (lt_ok rfl) ((h.get 35 (by decide)).trans rfl) (by decide) rfl (lt_ok rfl)) ?_
       refine .cons (fun E h => OpStep.no (t := 35) rfl rfl (lt_ok rfl) ((h.get 35 (by decide)).trans rfl) (by decide) rfl (lt_ok rfl)) ?_
       refine .cons (fun E h => by have g35 := h.get 35 (by decide); have g44 := h.get 44 (by decide); exact OpStep.plain rfl (Step.pick (b := false) (p := (.one (.d (.bool false)))) (t := 45) rfl rfl (by exact lt_ok rfl) (show Env.ev E (.tmp 35) = _ from g35.trans rfl) rfl)) ?_
       refine .cons (fun E h => by have g45 := h.get 45 (by decide); exact OpStep.plain rfl (Step.move (p := (.one (.d (.bool false)))) (t := 46) rfl rfl (by exact lt_ok rfl) (show Env.ev E (.tmp 45) = _ from g45.trans rfl))) ?_
       refine .cons (fun E h => OpStep.no (t := 46) rfl rfl (lt_ok rfl) ((h.get 46 (by decide)).trans rfl) (by decide) rfl (lt_ok rfl)) ?_
       refine .cons (fun E h => OpStep.no (t := 46) rfl rfl (lt_ok rfl) ((h.get 46 (by decide)).trans rfl) (by decide) rfl (lt_ok rfl)) ?_
       refine .cons (fun E h => OpStep.no (t := 46) rfl rfl (lt_ok rfl) ((h.get 46 (by decide)).trans rfl) (by decide) rfl (lt_ok rfl)) ?_
       refine .cons (fun E h => by have g46 := h.get 46 (by decide); have g49 := h.get 49 (by decide); exact OpStep.plain rfl (Step.pick (b := false) (p := (.one (.d (.bool false)))) (t := 50) rfl rfl (by exact lt_ok rfl) (show Env.ev E (.tmp 46) = _ from g46.trans rfl) rfl)) ?_
       refine .cons (fun E h => by have g50 := h.get 50 (by decide); exact OpStep.plain rfl (Step.assign (p := (.one (.d (.bool false)))) (t := 4) rfl rfl (by exact lt_ok rfl) (show Env.ev E (.tmp 50) = _ from g50.trans rfl))) ?_
       exact .nil _ _
      refine TL.nil ?_
      refine T.weaken (E' := { tm := [(4, (.one (.d (.bool false))))], rows := [], boxes := [] }) (Env.le_mk ⟨by kernel_rfl, trivial⟩ trivial trivial) ?_
      refine T.ret ?_
      exact ⟨[(false, [.d (.bool false)])], (.cons rfl .nil), rfl, [], (RetC.rd' (by first | rfl | (congr 1; symm; simp only [inclOk, *, Bool.and_true, Bool.true_and, Bool.and_false, Bool.false_and, decide_true, decide_false, and_true, true_and, and_self, and_false, false_and, Bool.and_self, not_true, not_false, Bool.not_true, Bool.not_false, ge_iff_le, gt_iff_lt, if_true, if_false, Bool.false_eq_true, ite_true, ite_false, reduceIte]; done) | (congr 1; symm; simp_all [inclOk]; done) | (congr 1; symm; simp_all [inclOk]; omega)) .nil)⟩
    ·
     refine T.draw [⟨5, (.agg [.d (.int .i64 l.f0), .d (.int .i64 l.f1), .d (.int .i64 l.f2), .d (.int .i64 l.f3), .d (.int .i64 l.f4)]), []⟩, ⟨6, (.one (.d (.bool true))), []⟩, ⟨7, (.one (.d (.bool true))), []⟩, ⟨8, (.one (.ptr 3 0)), []⟩, ⟨9, (.one (.d (.int .i64 x.f0))), []⟩, ⟨10, (.one (.d (.bool true))), []⟩, ⟨11, (.one (.d (.bool true))), []⟩, ⟨12, (.one (.d (.bool true))), []⟩, ⟨13, (.one (.ptr 3 1)), []⟩, ⟨14, (.one (.d (.int .i64 x.f1))), []⟩, ⟨15, (.one (.ptr 2 2)), []⟩, ⟨16, (.one (.d (.int .i64 l.f2))), []⟩, ⟨17, (.one (.d (.bool true))), []⟩, ⟨18, (.one (.d (.bool true))), []⟩, ⟨19, (.one (.d (.bool true))), []⟩, ⟨20, (.one (.ptr 3 2)), []⟩, ⟨21, (.one (.d (.int .i64 x.f2))), []⟩, ⟨22, (.one (.ptr 3 1)), []⟩, ⟨23, (.one (.d (.int .i64 x.f1))), []⟩, ⟨24, (.one (.d (.int .i64 (IntKind.i64.wrap (x.f1 - 1))))), []⟩, ⟨25, (.one (.d (.bool false))), []⟩, ⟨26, (.one (.d (.bool false))), []⟩, ⟨27, (.one (.d (.bool false))), []⟩, ⟨28, (.one (.und)), []⟩, ⟨29, (.one (.und)), []⟩, ⟨30, (.one (.und)), []⟩, ⟨31, (.one (.und)), []⟩, ⟨32, (.one (.und)), []⟩, ⟨33, (.one (.und)), []⟩, ⟨34, (.one (.d (.bool false))), []⟩, ⟨35, (.one (.d (.bool false))), []⟩, ⟨36, (.one (.und)), []⟩, ⟨37, (.one (.und)), []⟩, ⟨38, (.one (.und)), []⟩, ⟨39, (.one (.und)), []⟩, ⟨40, (.one (.und)), []⟩, ⟨41, (.one (.und)), []⟩, ⟨42, (.one (.und)), []⟩, ⟨43, (.one (.und)), []⟩, ⟨44, (.one (.und)), []⟩, ⟨45, (.one (.d (.bool false))), []⟩, ⟨46, (.one (.d (.bool false))), []⟩, ⟨47, (.one (.und)), []⟩, ⟨48, (.one (.und)), []⟩, ⟨49, (.one (.und)), []⟩, ⟨50, (.one (.d (.bool false))), []⟩, ⟨4, (.one (.d (.bool false))), []⟩] (by kernel_rfl) (by kernel_rfl) ?_ ?_
     ·
      refine .cons (fun E h => by have g2 := h.get 2 (by decide); exact OpStep.plain rfl (Step.load_box_agg (n := 5) (qs := [.d (.int .i64 l.f0), .d (.int .i64 l.f1), .d (.int .i64 l.f2), .d (.int .i64 l.f3), .d (.int .i64 l.f4)]) (t := 5) rfl rfl (by exact lt_ok rfl) (by kernel_rfl) (show Env.ev E (.tmp 2) = _ from g2.trans rfl) (by exact h.box rfl) rfl rfl)) ?_
      refine .cons (fun E h => by have g5 := h.get 5 (by decide); exact OpStep.plain rfl (Step.to (E1 := E.set 6 (.one (.d (.bool (limOk l))))) (congrArg (fun b_ => E.set 6 (.one (.d (.bool b_)))) hb1) (Step.call (f := 146) (xs := [.tmp 5]) (ps := [(.agg [.d (.int .i64 l.f0), .d (.int .i64 l.f1), .d (.int .i64 l.f2), .d (.int .i64 l.f3), .d (.int .i64 l.f4)])]) false (g := .func 146) (t := 6) rfl rfl (by exact lt_ok rfl) rfl (by kernel_rfl) (evs_cons (show Env.ev E (.tmp 5) = _ from g5.trans rfl) (rfl)) (.cons (.agg (.cons (.d _) (.cons (.d _) (.cons (.d _) (.cons (.d _) (.cons (.d _) .nil)))))) .nil) (ok_impl_LimitsOk l) (.inr rfl) (At.freshRows h rfl) (by simp) rfl))) ?_
      refine .cons (fun E h => by have g6 := h.get 6 (by decide); exact OpStep.plain rfl (Step.move (p := (.one (.d (.bool true)))) (t := 7) rfl rfl (by exact lt_ok rfl) (show Env.ev E (.tmp 6) = _ from g6.trans rfl))) ?_
      refine .cons (fun E h => by have g3 := h.get 3 (by decide); have g7 := h.get 7 (by decide); exact OpStep.yes (t := 7) rfl rfl (lt_ok rfl) (g7.trans rfl) (Step.fieldAddr (q := 0) (off := 0) (n := 1) (one := true) (t := 8) rfl rfl (by exact lt_ok rfl) (by kernel_rfl) (Nat.succ_ne_zero _) (show Env.ev E (.tmp 3) = _ from g3.trans rfl))) ?_
      refine .cons (fun E h => by have g7 := h.get 7 (by decide); have g8 := h.get 8 (by decide); exact OpStep.yes (t := 7) rfl rfl (lt_ok rfl) (g7.trans rfl) (Step.load_box (c := .d (.int .i64 x.f0)) (t := 9) rfl rfl (by exact lt_ok rfl) (by kernel_rfl) (show Env.ev E (.tmp 8) = _ from g8.trans rfl) (by exact h.box rfl) rfl)) ?_
      refine .cons (fun E h => by have g7 := h.get 7 (by decide); have g9 := h.get 9 (by decide); exact OpStep.yes (t := 7) rfl rfl (lt_ok rfl) (g7.trans rfl) (Step.to (E1 := E.set 10 (.one (.d (.bool (decide (0 ≤ x.f0 ∧ x.f0 ≤ 1152921504606846975)))))) (congrArg (fun b_ => E.set 10 (.one (.d (.bool b_)))) hb2) (Step.call (f := 147) (xs := [.tmp 9]) (ps := [(.one (.d (.int .i64 x.f0)))]) false (g := .func 147) (t := 10) rfl rfl (by exact lt_ok rfl) rfl (by kernel_rfl) (evs_cons (show Env.ev E (.tmp 9) = _ from g9.trans rfl) (rfl)) (.cons (.one (.d _)) .nil) (ok_impl_isNum x.f0) (.inr rfl) (At.freshRows h rfl) (by simp) rfl))) ?_
      refine .cons (fun E h => by have g7 := h.get 7 (by decide); have g10 := h.get 10 (by decide); exact OpStep.plain rfl (Step.pick (b := true) (p := (.one (.d (.bool true)))) (t := 11) rfl rfl (by exact lt_ok rfl) (show Env.ev E (.tmp 7) = _ from g7.trans rfl) (show Env.ev E (.tmp 10) = _ from g10.trans rfl))) ?_
      refine .cons (fun E h => by have g11 := h.get 11 (by decide); exact OpStep.plain rfl (Step.move (p := (.one (.d (.bool true)))) (t := 12) rfl rfl (by exact lt_ok rfl) (show Env.ev E (.tmp 11) = _ from g11.trans rfl))) ?_
      refine .cons (fun E h => by have g3 := h.get 3 (by decide); have g12 := h.get 12 (by decide); exact OpStep.yes (t := 12) rfl rfl (lt_ok rfl) (g12.trans rfl) (Step.fieldAddr (q := 0) (off := 1) (n := 1) (one := true) (t := 13) rfl rfl (by exact lt_ok rfl) (by kernel_rfl) (Nat.succ_ne_zero _) (show Env.ev E (.tmp 3) = _ from g3.trans rfl))) ?_
      refine .cons (fun E h => by have g12 := h.get 12 (by decide); have g13 := h.get 13 (by decide); exact OpStep.yes (t := 12) rfl rfl (lt_ok rfl) (g12.trans rfl) (Step.load_box (c := .d (.int .i64 x.f1)) (t := 14) rfl rfl (by exact lt_ok rfl) (by kernel_rfl) (show Env.ev E (.tmp 13) = _ from g13.trans rfl) (by exact h.box rfl) rfl)) ?_
      refine .cons (fun E h => by have g2 := h.get 2 (by decide); have g12 := h.get 12 (by decide); exact OpStep.yes (t := 12) rfl rfl (lt_ok rfl) (g12.trans rfl) (Step.fieldAddr (q := 0) (off := 2) (n := 1) (one := true) (t := 15) rfl rfl (by exact lt_ok rfl) (by kernel_rfl) (Nat.succ_ne_zero _) (show Env.ev E (.tmp 2) = _ from g2.trans rfl))) ?_
      refine .cons (fun E h => by have g12 := h.get 12 (by decide); have g15 := h.get 15 (by decide); exact OpStep.yes (t := 12) rfl rfl (lt_ok rfl) (g12.trans rfl) (Step.load_box (c := .d (.int .i64 l.f2)) (t := 16) rfl rfl (by exact lt_ok rfl) (by kernel_rfl) (show Env.ev E (.tmp 15) = _ from g15.trans rfl) (by exact h.box rfl) rfl)) ?_
      refine .cons (fun E h => by have g12 := h.get 12 (by decide); have g14 := h.get 14 (by decide); have g16 := h.get 16 (by decide); exact OpStep.yes (t := 12) rfl rfl (lt_ok rfl) (g12.trans rfl) (Step.to (E1 := E.set 17 (.one (.d (.bool (decide (1 ≤ x.f1 ∧ x.f1 ≤ l.f2)))))) (congrArg (fun b_ => E.set 17 (.one (.d (.bool b_)))) hb3) (Step.call (f := 144) (xs := [.tmp 14, .const (.int .i64 1), .tmp 16]) (ps := [(.one (.d (.int .i64 x.f1))), (.one (.d (.int .i64 1))), (.one (.d (.int .i64 l.f2)))]) false (g := .func 144) (t := 17) rfl rfl (by exact lt_ok rfl) rfl (by kernel_rfl) (evs_cons (show Env.ev E (.tmp 14) = _ from g14.trans rfl) (evs_cons rfl (evs_cons (show Env.ev E (.tmp 16) = _ from g16.trans rfl) (rfl)))) (.cons (.one (.d _)) (.cons (.one (.d _)) (.cons (.one (.d _)) .nil))) (ok_impl_within x.f1 1 l.f2) (.inr rfl) (At.freshRows h rfl) (by simp) rfl))) ?_
      refine .cons (fun E h => by have g12 := h.get 12 (by decide); have g17 := h.get 17 (by decide); exact OpStep.plain rfl (Step.pick (b := true) (p := (.one (.d (.bool true)))) (t := 18) rfl rfl (by exact lt_ok rfl) (show Env.ev E (.tmp 12) = _ from g12.trans rfl) (show Env.ev E (.tmp 17) = _ from g17.trans rfl))) ?_
      refine .cons (fun E h => by have g18 := h.get 18 (by decide); exact OpStep.plain rfl (Step.move (p := (.one (.d (.bool true)))) (t := 19) rfl rfl (by exact lt_ok rfl) (show Env.ev E (.tmp 18) = _ from g18.trans rfl))) ?_
      refine .cons (fun E h => by have g3 := h.get 3 (by decide); have g19 := h.get 19 (by decide); exact OpStep.yes (t := 19) rfl rfl (lt_ok rfl) (g19.trans rfl) (Step.fieldAddr (q := 0) (off := 2) (n := 1) (one := true) (t := 20) rfl rfl (by exact lt_ok rfl) (by kernel_rfl) (Nat.succ_ne_zero _) (show Env.ev E (.tmp 3) = _ from g3.trans rfl))) ?_
      refine .cons (fun E h => by have g19 := h.get 19 (by decide); have g20 := h.get 20 (by decide); exact OpStep.yes (t := 19) rfl rfl (lt_ok rfl) (g19.trans rfl) (Step.load_box (c := .d (.int .i64 x.f2)) (t := 21) rfl rfl (by exact lt_ok rfl) (by kernel_rfl) (show Env.ev E (.tmp 20) = _ from g20.trans rfl) (by exact h.box rfl) rfl)) ?_
      refine .cons (fun E h => by have g3 := h.get 3 (by decide); have g19 := h.get 19 (by decide); exact OpStep.yes (t := 19) rfl rfl (lt_ok rfl) (g19.trans rfl) (Step.fieldAddr (q := 0) (off := 1) (n := 1) (one := true) (t := 22) rfl rfl (by exact lt_ok rfl) (by kernel_rfl) (Nat.succ_ne_zero _) (show Env.ev E (.tmp 3) = _ from g3.trans rfl))) ?_
      refine .cons (fun E h => by have g19 := h.get 19 (by decide); have g22 := h.get 22 (by decide); exact OpStep.yes (t := 19) rfl rfl (lt_ok rfl) (g19.trans rfl) (Step.load_box (c := .d (.int .i64 x.f1)) (t := 23) rfl rfl (by exact lt_ok rfl) (by kernel_rfl) (show Env.ev E (.tmp 22) = _ from g22.trans rfl) (by exact h.box rfl) rfl)) ?_
      refine .cons (fun E h => by have g19 := h.get 19 (by decide); have g23 := h.get 23 (by decide); exact OpStep.yes (t := 19) rfl rfl (lt_ok rfl) (g19.trans rfl) (Step.bin (r := .int .i64 (IntKind.i64.wrap (x.f1 - 1))) (t := 24) rfl rfl (by exact lt_ok rfl) (show Env.ev E (.tmp 23) = _ from g23.trans rfl) rfl (Bin.sub (a := x.f1) (b := 1) (rfl)))) ?_
      refine .cons (fun E h => by have g19 := h.get 19 (by decide); have g21 := h.get 21 (by decide); have g24 := h.get 24 (by decide); exact OpStep.yes (t := 19) rfl rfl (lt_ok rfl) (g19.trans rfl) (Step.to (E1 := E.set 25 (.one (.d (.bool (decide (0 ≤ x.f2 ∧ x.f2 ≤ (IntKind.i64.wrap (x.f1 - 1)))))))) (congrArg (fun b_ => E.set 25 (.one (.d (.bool b_)))) hb4) (Step.call (f := 144) (xs := [.tmp 21, .const (.int .i64 0), .tmp 24]) (ps := [(.one (.d (.int .i64 x.f2))), (.one (.d (.int .i64 0))), (.one (.d (.int .i64 (IntKind.i64.wrap (x.f1 - 1)))))]) false (g := .func 144) (t := 25) rfl rfl (by exact lt_ok rfl) rfl (by kernel_rfl) (evs_cons (show Env.ev E (.tmp 21) = _ from g21.trans rfl) (evs_cons rfl (evs_cons (show Env.ev E (.tmp 24) = _ from g24.trans rfl) (rfl)))) (.cons (.one (.d _)) (.cons (.one (.d _)) (.cons (.one (.d _)) .nil))) (ok_impl_within x.f2 0 (IntKind.i64.wrap (x.f1 - 1))) (.inr rfl) (At.freshRows h rfl) (by simp) rfl))) ?_
      refine .cons (fun E h => by have g19 := h.get 19 (by decide); have g25 := h.get 25 (by decide); exact OpStep.plain rfl (Step.pick (b := true) (p := (.one (.d (.bool false)))) (t := 26) rfl rfl (by exact lt_ok rfl) (show Env.ev E (.tmp 19) = _ from g19.trans rfl) (show Env.ev E (.tmp 25) = _ from g25.trans rfl))) ?_
      refine .cons (fun E h => by have g26 := h.get 26 (by decide); exact OpStep.plain rfl (Step.move (p := (.one (.d (.bool false)))) (t := 27) rfl rfl (by exact lt_ok rfl) (show Env.ev E (.tmp 26) = _ from g26.trans rfl))) ?_
      refine .cons (fun E h => OpStep.no (t := 27) rfl rfl (lt_ok rfl) ((h.get 27 (by decide)).trans rfl) (by decide) rfl (lt_ok rfl)) ?_
      refine .cons (fun E h => OpStep.no (t := 27) rfl rfl (lt_ok rfl) ((h.get 27 (by decide)).trans rfl) (by decide) rfl (lt_ok rfl)) ?_
      refine .cons (fun E h => OpStep.no (t := 27) rfl rfl (lt_ok rfl) ((h.get 27 (by decide)).trans rfl) (by decide) rfl (lt_ok rfl)) ?_
      refine .cons (fun E h => OpStep.no (t := 27) rfl rfl (lt_ok rfl) ((h.get 27 (by decide)).trans rfl) (by decide) rfl (lt_ok rfl)) ?_
      refine .cons (fun E h => OpStep.no (t := 27) rfl rfl (lt_ok rfl) ((h.get 27 (by decide)).trans rfl) (by decide) rfl (lt_ok rfl)) ?_
      refine .cons (fun E h => OpStep.no (t := 27) rfl rfl (lt_ok rfl) ((h.get 27 (by decide)).trans rfl) (by decide) rfl (lt_ok rfl)) ?_
      refine .cons (fun E h => by have g27 := h.get 27 (by decide); have g33 := h.get 33 (by decide); exact OpStep.plain rfl (Step.pick (b := false) (p := (.one (.d (.bool false)))) (t := 34) rfl rfl (by exact lt_ok rfl) (show Env.ev E (.tmp 27) = _ from g27.trans rfl) rfl)) ?_
      refine .cons (fun E h => by have g34 := h.get 34 (by decide); exact OpStep.plain rfl (Step.move (p := (.one (.d (.bool false)))) (t := 35) rfl rfl (by exact lt_ok rfl) (show Env.ev E (.tmp 34) = _ from g34.trans rfl))) ?_
      refine .cons (fun E h => OpStep.no (t := 35) rfl rfl (lt_ok rfl) ((h.get 35 (by decide)).trans rfl) (by decide) rfl (lt_ok rfl)) ?_
      refine .cons (fun E h => OpStep.no (t := 35) rfl rfl (lt_ok rfl) ((h.get 35 (by decide)).trans rfl) (by decide) rfl (lt_ok rfl)) ?_
      refine .cons (fun E h => OpStep.no (t := 35) rfl rfl (lt_ok rfl) ((h.get 35 (by decide)).trans rfl) (by decide) rfl (lt_ok rfl)) ?_
      refine .cons (fun E h => OpStep.no (t := 35) rfl rfl (lt_ok rfl) ((h.get 35 (by decide)).trans rfl) (by decide) rfl (lt_ok rfl)) ?_
      refine .cons (fun E h => OpStep.no (t := 35) rfl rfl (lt_ok rfl) ((h.get 35 (by decide)).trans rfl) (by decide) rfl (lt_ok rfl)) ?_
      refine .cons (fun E h => OpStep.no (t := 35) rfl rfl (lt_ok rfl) ((h.get 35 (by decide)).trans rfl) (by decide) rfl (lt_ok rfl)) ?_
      refine .cons (fun E h => OpStep.no (t := 35) rfl rfl (lt_ok rfl) ((h.get 35 (by decide)).trans rfl) (by decide) rfl (lt_ok rfl)) ?_
      refine .cons (fun E h => OpStep.no (t := 35) rfl rfl (lt_ok rfl) ((h.get 35 (by decide)).trans rfl) (by decide) rfl (lt_ok rfl)) ?_
      refine .cons (fun E h => OpStep.no (t := 35) rfl rfl (lt_ok rfl) ((h.get 35 (by decide)).trans rfl) (by decide) rfl (lt_ok rfl)) ?_
      refine .cons (fun E h => by have g35 := h.get 35 (by decide); have g44 := h.get 44 (by decide); exact OpStep.plain rfl (Step.pick (b := false) (p := (.one (.d (.bool false)))) (t := 45) rfl rfl (by exact lt_ok rfl) (show Env.ev E (.tmp 35) = _ from g35.trans rfl) rfl)) ?_
      refine .cons (fun E h => by have g45 := h.get 45 (by decide); exact OpStep.plain rfl (Step.move (p := (.one (.d (.bool false)))) (t := 46) rfl rfl (by exact lt_ok rfl) (show Env.ev E (.tmp 45) = _ from g45.trans rfl))) ?_
      refine .cons (fun E h => OpStep.no (t := 46) rfl rfl (lt_ok rfl) ((h.get 46 (by decide)).trans rfl) (by decide) rfl (lt_ok rfl)) ?_
      refine .cons (fun E h => OpStep.no (t := 46) rfl rfl (lt_ok rfl) ((h.get 46 (by decide)).trans rfl) (by decide) rfl (lt_ok rfl)) ?_
      refine .cons (fun E h => OpStep.no (t := 46) rfl rfl (lt_ok rfl) ((h.get 46 (by decide)).trans rfl) (by decide) rfl (lt_ok rfl)) ?_
      refine .cons (fun E h => by have g46 := h.get 46 (by decide); have g49 := h.get 49 (by decide); exact OpStep.plain rfl (Step.pick (b := false) (p := (.one (.d (.bool false)))) (t := 50) rfl rfl (by exact lt_ok rfl) (show Env.ev E (.tmp 46) = _ from g46.trans rfl) rfl)) ?_
      refine .cons (fun E h => by have g50 := h.get 50 (by decide); exact OpStep.plain rfl (Step.assign (p := (.one (.d (.bool false)))) (t := 4) rfl rfl (by exact lt_ok rfl) (show Env.ev E (.tmp 50) = _ from g50.trans rfl))) ?_
      exact .nil _ _
     refine TL.nil ?_
     refine T.weaken (E' := { tm := [(4, (.one (.d (.bool false))))], rows := [], boxes := [] }) (Env.le_mk ⟨by kernel_rfl, trivial⟩ trivial trivial) ?_
     refine T.ret ?_
     exact ⟨[(false, [.d (.bool false)])], (.cons rfl .nil), rfl, [], (RetC.rd' (by first | rfl | (congr 1; symm; simp only [inclOk, *, Bool.and_true, Bool.true_and, Bool.and_false, Bool.false_and, decide_true, decide_false, and_true, true_and, and_self, and_false, false_and, Bool.and_self, not_true, not_false, Bool.not_true, Bool.not_false, ge_iff_le, gt_iff_lt, if_true, if_false, Bool.false_eq_true, ite_true, ite_false, reduceIte]; done) | (congr 1; symm; simp_all [inclOk]; done) | (congr 1; symm; simp_all [inclOk]; omega)) .nil)⟩
   ·
    refine T.draw [⟨5, (.agg [.d (.int .i64 l.f0), .d (.int .i64 l.f1), .d (.int .i64 l.f2), .d (.int .i64 l.f3), .d (.int .i64 l.f4)]), []⟩, ⟨6, (.one (.d (.bool true))), []⟩, ⟨7, (.one (.d (.bool true))), []⟩, ⟨8, (.one (.ptr 3 0)), []⟩, ⟨9, (.one (.d (.int .i64 x.f0))), []⟩, ⟨10, (.one (.d (.bool true))), []⟩, ⟨11, (.one (.d (.bool true))), []⟩, ⟨12, (.one (.d (.bool true))), []⟩, ⟨13, (.one (.ptr 3 1)), []⟩, ⟨14, (.one (.d (.int .i64 x.f1))), []⟩, ⟨15, (.one (.ptr 2 2)), []⟩, ⟨16, (.one (.d (.int .i64 l.f2))), []⟩, ⟨17, (.one (.d (.bool false))), []⟩, ⟨18, (.one (.d (.bool false))), []⟩, ⟨19, (.one (.d (.bool false))), []⟩, ⟨20, (.one (.und)), []⟩, ⟨21, (.one (.und)), []⟩, ⟨22, (.one (.und)), []⟩, ⟨23, (.one (.und)), []⟩, ⟨24, (.one (.und)), []⟩, ⟨25, (.one (.und)), []⟩, ⟨26, (.one (.d (.bool false))), []⟩, ⟨27, (.one (.d (.bool false))), []⟩, ⟨28, (.one (.und)), []⟩, ⟨29, (.one (.und)), []⟩, ⟨30, (.one (.und)), []⟩, ⟨31, (.one (.und)), []⟩, ⟨32, (.one (.und)), []⟩, ⟨33, (.one (.und)), []⟩, ⟨34, (.one (.d (.bool false))), []⟩, ⟨35, (.one (.d (.bool false))), []⟩, ⟨36, (.one (.und)), []⟩, ⟨37, (.one (.und)), []⟩, ⟨38, (.one (.und)), []⟩, ⟨39, (.one (.und)), []⟩, ⟨40, (.one (.und)), []⟩, ⟨41, (.one (.und)), []⟩, ⟨42, (.one (.und)), []⟩, ⟨43, (.one (.und)), []⟩, ⟨44, (.one (.und)), []⟩, ⟨45, (.one (.d (.bool false))), []⟩, ⟨46, (.one (.d (.bool false))), []⟩, ⟨47, (.one (.und)), []⟩, ⟨48, (.one (.und)), []⟩, ⟨49, (.one (.und)), []⟩, ⟨50, (.one (.d (.bool false))), []⟩, ⟨4, (.one (.d (.bool false))), []⟩] (by kernel_rfl) (by kernel_rfl) ?_ ?_
    ·
     refine .cons (fun E h => by have g2 := h.get 2 (by decide); exact OpStep.plain rfl (Step.load_box_agg (n := 5) (qs := [.d (.int .i64 l.f0), .d (.int .i64 l.f1), .d (.int .i64 l.f2), .d (.int .i64 l.f3), .d (.int .i64 l.f4)]) (t := 5) rfl rfl (by exact lt_ok rfl) (by kernel_rfl) (show Env.ev E (.tmp 2) = _ from g2.trans rfl) (by exact h.box rfl) rfl rfl)) ?_
     refine .cons (fun E h => by have g5 := h.get 5 (by decide); exact OpStep.plain rfl (Step.to (E1 := E.set 6 (.one (.d (.bool (limOk l))))) (congrArg (fun b_ => E.set 6 (.one (.d (.bool b_)))) hb1) (Step.call (f := 146) (xs := [.tmp 5]) (ps := [(.agg [.d (.int .i64 l.f0), .d (.int .i64 l.f1), .d (.int .i64 l.f2), .d (.int .i64 l.f3), .d (.int .i64 l.f4)])]) false (g := .func 146) (t := 6) rfl rfl (by exact lt_ok rfl) rfl (by kernel_rfl) (evs_cons (show Env.ev E (.tmp 5) = _ from g5.trans rfl) (rfl)) (.cons (.agg (.cons (.d _) (.cons (.d _) (.cons (.d _) (.cons (.d _) (.cons (.d _) .nil)))))) .nil) (ok_impl_LimitsOk l) (.inr rfl) (At.freshRows h rfl) (by simp) rfl))) ?_
     refine .cons (fun E h => by have g6 := h.get 6 (by decide); exact OpStep.plain rfl (Step.move (p := (.one (.d (.bool true)))) (t := 7) rfl rfl (by exact lt_ok rfl) (show Env.ev E (.tmp 6) = _ from g6.trans rfl))) ?_
     refine .cons (fun E h => by have g3 := h.get 3 (by decide); have g7 := h.get 7 (by decide); exact OpStep.yes (t := 7) rfl rfl (lt_ok rfl) (g7.trans rfl) (Step.fieldAddr (q := 0) (off := 0) (n := 1) (one := true) (t := 8) rfl rfl (by exact lt_ok rfl) (by kernel_rfl) (Nat.succ_ne_zero _) (show Env.ev E (.tmp 3) = _ from g3.trans rfl))) ?_
     refine .cons (fun E h => by have g7 := h.get 7 (by decide); have g8 := h.get 8 (by decide); exact OpStep.yes (t := 7) rfl rfl (lt_ok rfl) (g7.trans rfl) (Step.load_box (c := .d (.int .i64 x.f0)) (t := 9) rfl rfl (by exact lt_ok rfl) (by kernel_rfl) (show Env.ev E (.tmp 8) = _ from g8.trans rfl) (by exact h.box rfl) rfl)) ?_
     refine .cons (fun E h => by have g7 := h.get 7 (by decide); have g9 := h.get 9 (by decide); exact OpStep.yes (t := 7) rfl rfl (lt_ok rfl) (g7.trans rfl) (Step.to (E1 := E.set 10 (.one (.d (.bool (decide (0 ≤ x.f0 ∧ x.f0 ≤ 1152921504606846975)))))) (congrArg (fun b_ => E.set 10 (.one (.d (.bool b_)))) hb2) (Step.call (f := 147) (xs := [.tmp 9]) (ps := [(.one (.d (.int .i64 x.f0)))]) false (g := .func 147) (t := 10) rfl rfl (by exact lt_ok rfl) rfl (by kernel_rfl) (evs_cons (show Env.ev E (.tmp 9) = _ from g9.trans rfl) (rfl)) (.cons (.one (.d _)) .nil) (ok_impl_isNum x.f0) (.inr rfl) (At.freshRows h rfl) (by simp) rfl))) ?_
     refine .cons (fun E h => by have g7 := h.get 7 (by decide); have g10 := h.get 10 (by decide); exact OpStep.plain rfl (Step.pick (b := true) (p := (.one (.d (.bool true)))) (t := 11) rfl rfl (by exact lt_ok rfl) (show Env.ev E (.tmp 7) = _ from g7.trans rfl) (show Env.ev E (.tmp 10) = _ from g10.trans rfl))) ?_
     refine .cons (fun E h => by have g11 := h.get 11 (by decide); exact OpStep.plain rfl (Step.move (p := (.one (.d (.bool true)))) (t := 12) rfl rfl (by exact lt_ok rfl) (show Env.ev E (.tmp 11) = _ from g11.trans rfl))) ?_
     refine .cons (fun E h => by have g3 := h.get 3 (by decide); have g12 := h.get 12 (by decide); exact OpStep.yes (t := 12) rfl rfl (lt_ok rfl) (g12.trans rfl) (Step.fieldAddr (q := 0) (off := 1) (n := 1) (one := true) (t := 13) rfl rfl (by exact lt_ok rfl) (by kernel_rfl) (Nat.succ_ne_zero _) (show Env.ev E (.tmp 3) = _ from g3.trans rfl))) ?_
     refine .cons (fun E h => by have g12 := h.get 12 (by decide); have g13 := h.get 13 (by decide); exact OpStep.yes (t := 12) rfl rfl (lt_ok rfl) (g12.trans rfl) (Step.load_box (c := .d (.int .i64 x.f1)) (t := 14) rfl rfl (by exact lt_ok rfl) (by kernel_rfl) (show Env.ev E (.tmp 13) = _ from g13.trans rfl) (by exact h.box rfl) rfl)) ?_
     refine .cons (fun E h => by have g2 := h.get 2 (by decide); have g12 := h.get 12 (by decide); exact OpStep.yes (t := 12) rfl rfl (lt_ok rfl) (g12.trans rfl) (Step.fieldAddr (q := 0) (off := 2) (n := 1) (one := true) (t := 15) rfl rfl (by exact lt_ok rfl) (by kernel_rfl) (Nat.succ_ne_zero _) (show Env.ev E (.tmp 2) = _ from g2.trans rfl))) ?_
     refine .cons (fun E h => by have g12 := h.get 12 (by decide); have g15 := h.get 15 (by decide); exact OpStep.yes (t := 12) rfl rfl (lt_ok rfl) (g12.trans rfl) (Step.load_box (c := .d (.int .i64 l.f2)) (t := 16) rfl rfl (by exact lt_ok rfl) (by kernel_rfl) (show Env.ev E (.tmp 15) = _ from g15.trans rfl) (by exact h.box rfl) rfl)) ?_
     refine .cons (fun E h => by have g12 := h.get 12 (by decide); have g14 := h.get 14 (by decide); have g16 := h.get 16 (by decide); exact OpStep.yes (t := 12) rfl rfl (lt_ok rfl) (g12.trans rfl) (Step.to (E1 := E.set 17 (.one (.d (.bool (decide (1 ≤ x.f1 ∧ x.f1 ≤ l.f2)))))) (congrArg (fun b_ => E.set 17 (.one (.d (.bool b_)))) hb3) (Step.call (f := 144) (xs := [.tmp 14, .const (.int .i64 1), .tmp 16]) (ps := [(.one (.d (.int .i64 x.f1))), (.one (.d (.int .i64 1))), (.one (.d (.int .i64 l.f2)))]) false (g := .func 144) (t := 17) rfl rfl (by exact lt_ok rfl) rfl (by kernel_rfl) (evs_cons (show Env.ev E (.tmp 14) = _ from g14.trans rfl) (evs_cons rfl (evs_cons (show Env.ev E (.tmp 16) = _ from g16.trans rfl) (rfl)))) (.cons (.one (.d _)) (.cons (.one (.d _)) (.cons (.one (.d _)) .nil))) (ok_impl_within x.f1 1 l.f2) (.inr rfl) (At.freshRows h rfl) (by simp) rfl))) ?_
     refine .cons (fun E h => by have g12 := h.get 12 (by decide); have g17 := h.get 17 (by decide); exact OpStep.plain rfl (Step.pick (b := true) (p := (.one (.d (.bool false)))) (t := 18) rfl rfl (by exact lt_ok rfl) (show Env.ev E (.tmp 12) = _ from g12.trans rfl) (show Env.ev E (.tmp 17) = _ from g17.trans rfl))) ?_
     refine .cons (fun E h => by have g18 := h.get 18 (by decide); exact OpStep.plain rfl (Step.move (p := (.one (.d (.bool false)))) (t := 19) rfl rfl (by exact lt_ok rfl) (show Env.ev E (.tmp 18) = _ from g18.trans rfl))) ?_
     refine .cons (fun E h => OpStep.no (t := 19) rfl rfl (lt_ok rfl) ((h.get 19 (by decide)).trans rfl) (by decide) rfl (lt_ok rfl)) ?_
     refine .cons (fun E h => OpStep.no (t := 19) rfl rfl (lt_ok rfl) ((h.get 19 (by decide)).trans rfl) (by decide) rfl (lt_ok rfl)) ?_
     refine .cons (fun E h => OpStep.no (t := 19) rfl rfl (lt_ok rfl) ((h.get 19 (by decide)).trans rfl) (by decide) rfl (lt_ok rfl)) ?_
     refine .cons (fun E h => OpStep.no (t := 19) rfl rfl (lt_ok rfl) ((h.get 19 (by decide)).trans rfl) (by decide) rfl (lt_ok rfl)) ?_
     refine .cons (fun E h => OpStep.no (t := 19) rfl rfl (lt_ok rfl) ((h.get 19 (by decide)).trans rfl) (by decide) rfl (lt_ok rfl)) ?_
     refine .cons (fun E h => OpStep.no (t := 19) rfl rfl (lt_ok rfl) ((h.get 19 (by decide)).trans rfl) (by decide) rfl (lt_ok rfl)) ?_
     refine .cons (fun E h => by have g19 := h.get 19 (by decide); have g25 := h.get 25 (by decide); exact OpStep.plain rfl (Step.pick (b := false) (p := (.one (.d (.bool false)))) (t := 26) rfl rfl (by exact lt_ok rfl) (show Env.ev E (.tmp 19) = _ from g19.trans rfl) rfl)) ?_
     refine .cons (fun E h => by have g26 := h.get 26 (by decide); exact OpStep.plain rfl (Step.move (p := (.one (.d (.bool false)))) (t := 27) rfl rfl (by exact lt_ok rfl) (show Env.ev E (.tmp 26) = _ from g26.trans rfl))) ?_
     refine .cons (fun E h => OpStep.no (t := 27) rfl rfl (lt_ok rfl) ((h.get 27 (by decide)).trans rfl) (by decide) rfl (lt_ok rfl)) ?_
     refine .cons (fun E h => OpStep.no (t := 27) rfl rfl (lt_ok rfl) ((h.get 27 (by decide)).trans rfl) (by decide) rfl (lt_ok rfl)) ?_
     refine .cons (fun E h => OpStep.no (t := 27) rfl rfl (lt_ok rfl) ((h.get 27 (by decide)).trans rfl) (by decide) rfl (lt_ok rfl)) ?_
     refine .cons (fun E h => OpStep.no (t := 27) rfl rfl (lt_ok rfl) ((h.get 27 (by decide)).trans rfl) (by decide) rfl (lt_ok rfl)) ?_
     refine .cons (fun E h => OpStep.no (t := 27) rfl rfl (lt_ok rfl) ((h.get 27 (by decide)).trans rfl) (by decide) rfl (lt_ok rfl)) ?_
     refine .cons (fun E h => OpStep.no (t := 27) rfl rfl (lt_ok rfl) ((h.get 27 (by decide)).trans rfl) (by decide) rfl (lt_ok rfl)) ?_
     refine .cons (fun E h => by have g27 := h.get 27 (by decide); have g33 := h.get 33 (by decide); exact OpStep.plain rfl (Step.pick (b := false) (p := (.one (.d (.bool false)))) (t := 34) rfl rfl (by exact lt_ok rfl) (show Env.ev E (.tmp 27) = _ from g27.trans rfl) rfl)) ?_
     refine .cons (fun E h => by have g34 := h.get 34 (by decide); exact OpStep.plain rfl (Step.move (p := (.one (.d (.bool false)))) (t := 35) rfl rfl (by exact lt_ok rfl) (show Env.ev E (.tmp 34) = _ from g34.trans rfl))) ?_
     refine .cons (fun E h => OpStep.no (t := 35) rfl rfl (lt_ok rfl) ((h.get 35 (by decide)).trans rfl) (by decide) rfl (lt_ok rfl)) ?_
     refine .cons (fun E h => OpStep.no (t := 35) rfl rfl (lt_ok rfl) ((h.get 35 (by decide)).trans rfl) (by decide) rfl (lt_ok rfl)) ?_
     refine .cons (fun E h => OpStep.no (t := 35) rfl rfl (lt_ok rfl) ((h.get 35 (by decide)).trans rfl) (by decide) rfl (lt_ok rfl)) ?_
     refine .cons (fun E h => OpStep.no (t := 35) rfl rfl (lt_ok rfl) ((h.get 35 (by decide)).trans rfl) (by decide) rfl (lt_ok rfl)) ?_
     refine .cons (fun E h => OpStep.no (t := 35) rfl rfl (lt_ok rfl) ((h.get 35 (by decide)).trans rfl) (by decide) rfl (lt_ok rfl)) ?_
     refine .cons (fun E h => OpStep.no (t := 35) rfl rfl (lt_ok rfl) ((h.get 35 (by decide)).trans rfl) (by decide) rfl (lt_ok rfl)) ?_
     refine .cons (fun E h => OpStep.no (t := 35) rfl rfl (lt_ok rfl) ((h.get 35 (by decide)).trans rfl) (by decide) rfl (lt_ok rfl)) ?_
     refine .cons (fun E h => OpStep.no (t := 35) rfl rfl (lt_ok rfl) ((h.get 35 (by decide)).trans rfl) (by decide) rfl (lt_ok rfl)) ?_
     refine .cons (fun E h => OpStep.no (t := 35) rfl rfl (lt_ok rfl) ((h.get 35 (by decide)).trans rfl) (by decide) rfl (lt_ok rfl)) ?_
     refine .cons (fun E h => by have g35 := h.get 35 (by decide); have g44 := h.get 44 (by decide); exact OpStep.plain rfl (Step.pick (b := false) (p := (.one (.d (.bool false)))) (t := 45) rfl rfl (by exact lt_ok rfl) (show Env.ev E (.tmp 35) = _ from g35.trans rfl) rfl)) ?_
     refine .cons (fun E h => by have g45 := h.get 45 (by decide); exact OpStep.plain rfl (Step.move (p := (.one (.d (.bool false)))) (t := 46) rfl rfl (by exact lt_ok rfl) (show Env.ev E (.tmp 45) = _ from g45.trans rfl))) ?_
     refine .cons (fun E h => OpStep.no (t := 46) rfl rfl (lt_ok rfl) ((h.get 46 (by decide)).trans rfl) (by decide) rfl (lt_ok rfl)) ?_
     refine .cons (fun E h => OpStep.no (t := 46) rfl rfl (lt_ok rfl) ((h.get 46 (by decide)).trans rfl) (by decide) rfl (lt_ok rfl)) ?_
     refine .cons (fun E h => OpStep.no (t := 46) rfl rfl (lt_ok rfl) ((h.get 46 (by decide)).trans rfl) (by decide) rfl (lt_ok rfl)) ?_
     refine .cons (fun E h => by have g46 := h.get 46 (by decide); have g49 := h.get 49 (by decide); exact OpStep.plain rfl (Step.pick (b := false) (p := (.one (.d (.bool false)))) (t := 50) rfl rfl (by exact lt_ok rfl) (show Env.ev E (.tmp 46) = _ from g46.trans rfl) rfl)) ?_
     refine .cons (fun E h => by have g50 := h.get 50 (by decide); exact OpStep.plain rfl (Step.assign (p := (.one (.d (.bool false)))) (t := 4) rfl rfl (by exact lt_ok rfl) (show Env.ev E (.tmp 50) = _ from g50.trans rfl))) ?_
     exact .nil _ _
    refine TL.nil ?_
    refine T.weaken (E' := { tm := [(4, (.one (.d (.bool false))))], rows := [], boxes := [] }) (Env.le_mk ⟨by kernel_rfl, trivial⟩ trivial trivial) ?_
    refine T.ret ?_
    exact ⟨[(false, [.d (.bool false)])], (.cons rfl .nil), rfl, [], (RetC.rd' (by first | rfl | (congr 1; symm; simp only [inclOk, *, Bool.and_true, Bool.true_and, Bool.and_false, Bool.false_and, decide_true, decide_false, and_true, true_and, and_self, and_false, false_and, Bool.and_self, not_true, not_false, Bool.not_true, Bool.not_false, ge_iff_le, gt_iff_lt, if_true, if_false, Bool.false_eq_true, ite_true, ite_false, reduceIte]; done) | (congr 1; symm; simp_all [inclOk]; done) | (congr 1; symm; simp_all [inclOk]; omega)) .nil)⟩
  ·
   refine T.draw [⟨5, (.agg [.d (.int .i64 l.f0), .d (.int .i64 l.f1), .d (.int .i64 l.f2), .d (.int .i64 l.f3), .d (.int .i64 l.f4)]), []⟩, ⟨6, (.one (.d (.bool true))), []⟩, ⟨7, (.one (.d (.bool true))), []⟩, ⟨8, (.one (.ptr 3 0)), []⟩, ⟨9, (.one (.d (.int .i64 x.f0))), []⟩, ⟨10, (.one (.d (.bool false))), []⟩, ⟨11, (.one (.d (.bool false))), []⟩, ⟨12, (.one (.d (.bool false))), []⟩, ⟨13, (.one (.und)), []⟩, ⟨14, (.one (.und)), []⟩, ⟨15, (.one (.und)), []⟩, ⟨16, (.one (.und)), []⟩, ⟨17, (.one (.und)), []⟩, ⟨18, (.one (.d (.bool false))), []⟩, ⟨19, (.one (.d (.bool false))), []⟩, ⟨20, (.one (.und)), []⟩, ⟨21, (.one (.und)), []⟩, ⟨22, (.one (.und)), []⟩, ⟨23, (.one (.und)), []⟩, ⟨24, (.one (.und)), []⟩, ⟨25, (.one (.und)), []⟩, ⟨26, (.one (.d (.bool false))), []⟩, ⟨27, (.one (.d (.bool false))), []⟩, ⟨28, (.one (.und)), []⟩, ⟨29, (.one (.und)), []⟩, ⟨30, (.one (.und)), []⟩, ⟨31, (.one (.und)), []⟩, ⟨32, (.one (.und)), []⟩, ⟨33, (.one (.und)), []⟩, ⟨34, (.one (.d (.bool false))), []⟩, ⟨35, (.one (.d (.bool false))), []⟩, ⟨36, (.one (.und)), []⟩, ⟨37, (.one (.und)), []⟩, ⟨38, (.one (.und)), []⟩, ⟨39, (.one (.und)), []⟩, ⟨40, (.one (.und)), []⟩, ⟨41, (.one (.und)), []⟩, ⟨42, (.one (.und)), []⟩, ⟨43, (.one (.und)), []⟩, ⟨44, (.one (.und)), []⟩, ⟨45, (.one (.d (.bool false))), []⟩, ⟨46, (.one (.d (.bool false))), []⟩, ⟨47, (.one (.und)), []⟩, ⟨48, (.one (.und)), []⟩, ⟨49, (.one (.und)), []⟩, ⟨50, (.one (.d (.bool false))), []⟩, ⟨4, (.one (.d (.bool false))), []⟩] (by kernel_rfl) (by kernel_rfl) ?_ ?_
   ·
    refine .cons (fun E h => by have g2 := h.get 2 (by decide); exact OpStep.plain rfl (Step.load_box_agg (n := 5) (qs := [.d (.int .i64 l.f0), .d (.int .i64 l.f1), .d (.int .i64 l.f2), .d (.int .i64 l.f3), .d (.int .i64 l.f4)]) (t := 5) rfl rfl (by exact lt_ok rfl) (by kernel_rfl) (show Env.ev E (.tmp 2) = _ from g2.trans rfl) (by exact h.box rfl) rfl rfl)) ?_
    refine .cons (fun E h => by have g5 := h.get 5 (by decide); exact OpStep.plain rfl (Step.to (E1 := E.set 6 (.one (.d (.bool (limOk l))))) (congrArg (fun b_ => E.set 6 (.one (.d (.bool b_)))) hb1) (Step.call (f := 146) (xs := [.tmp 5]) (ps := [(.agg [.d (.int .i64 l.f0), .d (.int .i64 l.f1), .d (.int .i64 l.f2), .d (.int .i64 l.f3), .d (.int .i64 l.f4)])]) false (g := .func 146) (t := 6) rfl rfl (by exact lt_ok rfl) rfl (by kernel_rfl) (evs_cons (show Env.ev E (.tmp 5) = _ from g5.trans rfl) (rfl)) (.cons (.agg (.cons (.d _) (.cons (.d _) (.cons (.d _) (.cons (.d _) (.cons (.d _) .nil)))))) .nil) (ok_impl_LimitsOk l) (.inr rfl) (At.freshRows h rfl) (by simp) rfl))) ?_
    refine .cons (fun E h => by have g6 := h.get 6 (by decide); exact OpStep.plain rfl (Step.move (p := (.one (.d (.bool true)))) (t := 7) rfl rfl (by exact lt_ok rfl) (show Env.ev E (.tmp 6) = _ from g6.trans rfl))) ?_
    refine .cons (fun E h => by have g3 := h.get 3 (by decide); have g7 := h.get 7 (by decide); exact OpStep.yes (t := 7) rfl rfl (lt_ok rfl) (g7.trans rfl) (Step.fieldAddr (q := 0) (off := 0) (n := 1) (one := true) (t := 8) rfl rfl (by exact lt_ok rfl) (by kernel_rfl) (Nat.succ_ne_zero _) (show Env.ev E (.tmp 3) = _ from g3.trans rfl))) ?_
    refine .cons (fun E h => by have g7 := h.get 7 (by decide); have g8 := h.get 8 (by decide); exact OpStep.yes (t := 7) rfl rfl (lt_ok rfl) (g7.trans rfl) (Step.load_box (c := .d (.int .i64 x.f0)) (t := 9) rfl rfl (by exact lt_ok rfl) (by kernel_rfl) (show Env.ev E (.tmp 8) = _ from g8.trans rfl) (by exact h.box rfl) rfl)) ?_
    refine .cons (fun E h => by have g7 := h.get 7 (by decide); have g9 := h.get 9 (by decide); exact OpStep.yes (t := 7) rfl rfl (lt_ok rfl) (g7.trans rfl) (Step.to (E1 := E.set 10 (.one (.d (.bool (decide (0 ≤ x.f0 ∧ x.f0 ≤ 1152921504606846975)))))) (congrArg (fun b_ => E.set 10 (.one (.d (.bool b_)))) hb2) (Step.call (f := 147) (xs := [.tmp 9]) (ps := [(.one (.d (.int .i64 x.f0)))]) false (g := .func 147) (t := 10) rfl rfl (by exact lt_ok rfl) rfl (by kernel_rfl) (evs_cons (show Env.ev E (.tmp 9) = _ from g9.trans rfl) (rfl)) (.cons (.one (.d _)) .nil) (ok_impl_isNum x.f0) (.inr rfl) (At.freshRows h rfl) (by simp) rfl))) ?_
    refine .cons (fun E h => by have g7 := h.get 7 (by decide); have g10 := h.get 10 (by decide); exact OpStep.plain rfl (Step.pick (b := true) (p := (.one (.d (.bool false)))) (t := 11) rfl rfl (by exact lt_ok rfl) (show Env.ev E (.tmp 7) = _ from g7.trans rfl) (show Env.ev E (.tmp 10) = _ from g10.trans rfl))) ?_
    refine .cons (fun E h => by have g11 := h.get 11 (by decide); exact OpStep.plain rfl (Step.move (p := (.one (.d (.bool false)))) (t := 12) rfl rfl (by exact lt_ok rfl) (show Env.ev E (.tmp 11) = _ from g11.trans rfl))) ?_
    refine .cons (fun E h => OpStep.no (t := 12) rfl rfl (lt_ok rfl) ((h.get 12 (by decide)).trans rfl) (by decide) rfl (lt_ok rfl)) ?_
    refine .cons (fun E h => OpStep.no (t := 12) rfl rfl (lt_ok rfl) ((h.get 12 (by decide)).trans rfl) (by decide) rfl (lt_ok rfl)) ?_
    refine .cons (fun E h => OpStep.no (t := 12) rfl rfl (lt_ok rfl) ((h.get 12 (by decide)).trans rfl) (by decide) rfl (lt_ok rfl)) ?_
    refine .cons (fun E h => OpStep.no (t := 12) rfl rfl (lt_ok rfl) ((h.get 12 (by decide)).trans rfl) (by decide) rfl (lt_ok rfl)) ?_
    refine .cons (fun E h => OpStep.no (t := 12) rfl rfl (lt_ok rfl) ((h.get 12 (by decide)).trans rfl) (by decide) rfl (lt_ok rfl)) ?_
    refine .cons (fun E h => by have g12 := h.get 12 (by decide); have g17 := h.get 17 (by decide); exact OpStep.plain rfl (Step.pick (b := false) (p := (.one (.d (.bool false)))) (t := 18) rfl rfl (by exact lt_ok rfl) (show Env.ev E (.tmp 12) = _ from g12.trans rfl) rfl)) ?_
    refine .cons (fun E h => by have g18 := h.get 18 (by decide); exact OpStep.plain rfl (Step.move (p := (.one (.d (.bool false)))) (t := 19) rfl rfl (by exact lt_ok rfl) (show Env.ev E (.tmp 18) = _ from g18.trans rfl))) ?_
    refine .cons (fun E h => OpStep.no (t := 19) rfl rfl (lt_ok rfl) ((h.get 19 (by decide)).trans rfl) (by decide) rfl (lt_ok rfl)) ?_
    refine .cons (fun E h => OpStep.no (t := 19) rfl rfl (lt_ok rfl) ((h.get 19 (by decide)).trans rfl) (by decide) rfl (lt_ok rfl)) ?_
    refine .cons (fun E h => OpStep.no (t := 19) rfl rfl (lt_ok rfl) ((h.get 19 (by decide)).trans rfl) (by decide) rfl (lt_ok rfl)) ?_
    refine .cons (fun E h => OpStep.no (t := 19) rfl rfl (lt_ok rfl) ((h.get 19 (by decide)).trans rfl) (by decide) rfl (lt_ok rfl)) ?_
    refine .cons (fun E h => OpStep.no (t := 19) rfl rfl (lt_ok rfl) ((h.get 19 (by decide)).trans rfl) (by decide) rfl (lt_ok rfl)) ?_
    refine .cons (fun E h => OpStep.no (t := 19) rfl rfl (lt_ok rfl) ((h.get 19 (by decide)).trans rfl) (by decide) rfl (lt_ok rfl)) ?_
    refine .cons (fun E h => by have g19 := h.get 19 (by decide); have g25 := h.get 25 (by decide); exact OpStep.plain rfl (Step.pick (b := false) (p := (.one (.d (.bool false)))) (t := 26) rfl rfl (by exact lt_ok rfl) (show Env.ev E (.tmp 19) = _ from g19.trans rfl) rfl)) ?_
    refine .cons (fun E h => by have g26 := h.get 26 (by decide); exact OpStep.plain rfl (Step.move (p := (.one (.d (.bool false)))) (t := 27) rfl rfl (by exact lt_ok rfl) (show Env.ev E (.tmp 26) = _ from g26.trans rfl))) ?_
    refine .cons (fun E h => OpStep.no (t := 27) rfl rfl (lt_ok rfl) ((h.get 27 (by decide)).trans rfl) (by decide) rfl (lt_ok rfl)) ?_
    refine .cons (fun E h => OpStep.no (t := 27) rfl rfl (lt_ok rfl) ((h.get 27 (by decide)).trans rfl) (by decide) rfl (lt_ok rfl)) ?_
    refine .cons (fun E h => OpStep.no (t := 27) rfl rfl (lt_ok rfl) ((h.get 27 (by decide)).trans rfl) (by decide) rfl (lt_ok rfl)) ?_
    refine .cons (fun E h => OpStep.no (t := 27) rfl rfl (lt_ok rfl) ((h.get 27 (by decide)).trans rfl) (by decide) rfl (lt_ok rfl)) ?_
    refine .cons (fun E h => OpStep.no (t := 27) rfl rfl (lt_ok rfl) ((h.get 27 (by decide)).trans rfl) (by decide) rfl (lt_ok rfl)) ?_
    refine .cons (fun E h => OpStep.no (t := 27) rfl rfl (lt_ok rfl) ((h.get 27 (by decide)).trans rfl) (by decide) rfl (lt_ok rfl)) ?_
    refine .cons (fun E h => by have g27 := h.get 27 (by decide); have g33 := h.get 33 (by decide); exact OpStep.plain rfl (Step.pick (b := false) (p := (.one (.d (.bool false)))) (t := 34) rfl rfl (by exact lt_ok rfl) (show Env.ev E (.tmp 27) = _ from g27.trans rfl) rfl)) ?_
    refine .cons (fun E h => by have g34 := h.get 34 (by decide); exact OpStep.plain rfl (Step.move (p := (.one (.d (.bool false)))) (t := 35) rfl rfl (by exact lt_ok rfl) (show Env.ev E (.tmp 34) = _ from g34.trans rfl))) ?_
    refine .cons (fun E h => OpStep.no (t := 35) rfl rfl (lt_ok rfl) ((h.get 35 (by decide)).trans rfl) (by decide) rfl (lt_ok rfl)) ?_
    refine .cons (fun E h => OpStep.no (t := 35) rfl rfl (lt_ok rfl) ((h.get 35 (by decide)).trans rfl) (by decide) rfl (lt_ok rfl)) ?_
    refine .cons (fun E h => OpStep.no (t := 35) rfl rfl (lt_ok rfl) ((h.get 35 (by decide)).trans rfl) (by decide) rfl (lt_ok rfl)) ?_
    refine .cons (fun E h => OpStep.no (t := 35) rfl rfl (lt_ok rfl) ((h.get 35 (by decide)).trans rfl) (by decide) rfl (lt_ok rfl)) ?_
    refine .cons (fun E h => OpStep.no (t := 35) rfl rfl (lt_ok rfl) ((h.get 35 (by decide)).trans rfl) (by decide) rfl (lt_ok rfl)) ?_
    refine .cons (fun E h => OpStep.no (t := 35) rfl rfl (lt_ok rfl) ((h.get 35 (by decide)).trans rfl) (by decide) rfl (lt_ok rfl)) ?_
    refine .cons (fun E h => OpStep.no (t := 35) rfl rfl (lt_ok rfl) ((h.get 35 (by decide)).trans rfl) (by decide) rfl (lt_ok rfl)) ?_
    refine .cons (fun E h => OpStep.no (t := 35) rfl rfl (lt_ok rfl) ((h.get 35 (by decide)).trans rfl) (by decide) rfl (lt_ok rfl)) ?_
    refine .cons (fun E h => OpStep.no (t := 35) rfl rfl (lt_ok rfl) ((h.get 35 (by decide)).trans rfl) (by decide) rfl (lt_ok rfl)) ?_
    refine .cons (fun E h => by have g35 := h.get 35 (by decide); have g44 := h.get 44 (by decide); exact OpStep.plain rfl (Step.pick (b := false) (p := (.one (.d (.bool false)))) (t := 45) rfl rfl (by exact lt_ok rfl) (show Env.ev E (.tmp 35) = _ from g35.trans rfl) rfl)) ?_
    refine .cons (fun E h => by have g45 := h.get 45 (by decide); exact OpStep.plain rfl (Step.move (p := (.one (.d (.bool false)))) (t := 46) rfl rfl (by exact lt_ok rfl) (show Env.ev E (.tmp 45) = _ from g45.trans rfl))) ?_
    refine .cons (fun E h => OpStep.no (t := 46) rfl rfl (lt_ok rfl) ((h.get 46 (by decide)).trans rfl) (by decide) rfl (lt_ok rfl)) ?_
    refine .cons (fun E h => OpStep.no (t := 46) rfl rfl (lt_ok rfl) ((h.get 46 (by decide)).trans rfl) (by decide) rfl (lt_ok rfl)) ?_
    refine .cons (fun E h => OpStep.no (t := 46) rfl rfl (lt_ok rfl) ((h.get 46 (by decide)).trans rfl) (by decide) rfl (lt_ok rfl)) ?_
    refine .cons (fun E h => by have g46 := h.get 46 (by decide); have g49 := h.get 49 (by decide); exact OpStep.plain rfl (Step.pick (b := false) (p := (.one (.d (.bool false)))) (t := 50) rfl rfl (by exact lt_ok rfl) (show Env.ev E (.tmp 46) = _ from g46.trans rfl) rfl)) ?_
    refine .cons (fun E h => by have g50 := h.get 50 (by decide); exact OpStep.plain rfl (Step.assign (p := (.one (.d (.bool false)))) (t := 4) rfl rfl (by exact lt_ok rfl) (show Env.ev E (.tmp 50) = _ from g50.trans rfl))) ?_
    exact .nil _ _
   refine TL.nil ?_
   refine T.weaken (E' := { tm := [(4, (.one (.d (.bool false))))], rows := [], boxes := [] }) (Env.le_mk ⟨by kernel_rfl, trivial⟩ trivial trivial) ?_
   refine T.ret ?_
   exact ⟨[(false, [.d (.bool false)])], (.cons rfl .nil), rfl, [], (RetC.rd' (by first | rfl | (congr 1; symm; simp only [inclOk, *, Bool.and_true, Bool.true_and, Bool.and_false, Bool.false_and, decide_true, decide_false, and_true, true_and, and_self, and_false, false_and, Bool.and_self, not_true, not_false, Bool.not_true, Bool.not_false, ge_iff_le, gt_iff_lt, if_true, if_false, Bool.false_eq_true, ite_true, ite_false, reduceIte]; done) | (congr 1; symm; simp_all [inclOk]; done) | (congr 1; symm; simp_all [inclOk]; omega)) .nil)⟩
 ·
  refine T.draw [⟨5, (.agg [.d (.int .i64 l.f0), .d (.int .i64 l.f1), .d (.int .i64 l.f2), .d (.int .i64 l.f3), .d (.int .i64 l.f4)]), []⟩, ⟨6, (.one (.d (.bool false))), []⟩, ⟨7, (.one (.d (.bool false))), []⟩, ⟨8, (.one (.und)), []⟩, ⟨9, (.one (.und)), []⟩, ⟨10, (.one (.und)), []⟩, ⟨11, (.one (.d (.bool false))), []⟩, ⟨12, (.one (.d (.bool false))), []⟩, ⟨13, (.one (.und)), []⟩, ⟨14, (.one (.und)), []⟩, ⟨15, (.one (.und)), []⟩, ⟨16, (.one (.und)), []⟩, ⟨17, (.one (.und)), []⟩, ⟨18, (.one (.d (.bool false))), []⟩, ⟨19, (.one (.d (.bool false))), []⟩, ⟨20, (.one (.und)), []⟩, ⟨21, (.one (.und)), []⟩, ⟨22, (.one (.und)), []⟩, ⟨23, (.one (.und)), []⟩, ⟨24, (.one (.und)), []⟩, ⟨25, (.one (.und)), []⟩, ⟨26, (.one (.d (.bool false))), []⟩, ⟨27, (.one (.d (.bool false))), []⟩, ⟨28, (.one (.und)), []⟩, ⟨29, (.one (.und)), []⟩, ⟨30, (.one (.und)), []⟩, ⟨31, (.one (.und)), []⟩, ⟨32, (.one (.und)), []⟩, ⟨33, (.one (.und)), []⟩, ⟨34, (.one (.d (.bool false))), []⟩, ⟨35, (.one (.d (.bool false))), []⟩, ⟨36, (.one (.und)), []⟩, ⟨37, (.one (.und)), []⟩, ⟨38, (.one (.und)), []⟩, ⟨39, (.one (.und)), []⟩, ⟨40, (.one (.und)), []⟩, ⟨41, (.one (.und)), []⟩, ⟨42, (.one (.und)), []⟩, ⟨43, (.one (.und)), []⟩, ⟨44, (.one (.und)), []⟩, ⟨45, (.one (.d (.bool false))), []⟩, ⟨46, (.one (.d (.bool false))), []⟩, ⟨47, (.one (.und)), []⟩, ⟨48, (.one (.und)), []⟩, ⟨49, (.one (.und)), []⟩, ⟨50, (.one (.d (.bool false))), []⟩, ⟨4, (.one (.d (.bool false))), []⟩] (by kernel_rfl) (by kernel_rfl) ?_ ?_
  ·
   refine .cons (fun E h => by have g2 := h.get 2 (by decide); exact OpStep.plain rfl (Step.load_box_agg (n := 5) (qs := [.d (.int .i64 l.f0), .d (.int .i64 l.f1), .d (.int .i64 l.f2), .d (.int .i64 l.f3), .d (.int .i64 l.f4)]) (t := 5) rfl rfl (by exact lt_ok rfl) (by kernel_rfl) (show Env.ev E (.tmp 2) = _ from g2.trans rfl) (by exact h.box rfl) rfl rfl)) ?_
   refine .cons (fun E h => by have g5 := h.get 5 (by decide); exact OpStep.plain rfl (Step.to (E1 := E.set 6 (.one (.d (.bool (limOk l))))) (congrArg (fun b_ => E.set 6 (.one (.d (.bool b_)))) hb1) (Step.call (f := 146) (xs := [.tmp 5]) (ps := [(.agg [.d (.int .i64 l.f0), .d (.int .i64 l.f1), .d (.int .i64 l.f2), .d (.int .i64 l.f3), .d (.int .i64 l.f4)])]) false (g := .func 146) (t := 6) rfl rfl (by exact lt_ok rfl) rfl (by kernel_rfl) (evs_cons (show Env.ev E (.tmp 5) = _ from g5.trans rfl) (rfl)) (.cons (.agg (.cons (.d _) (.cons (.d _) (.cons (.d _) (.cons (.d _) (.cons (.d _) .nil)))))) .nil) (ok_impl_LimitsOk l) (.inr rfl) (At.freshRows h rfl) (by simp) rfl))) ?_
   refine .cons (fun E h => by have g6 := h.get 6 (by decide); exact OpStep.plain rfl (Step.move (p := (.one (.d (.bool false)))) (t := 7) rfl rfl (by exact lt_ok rfl) (show Env.ev E (.tmp 6) = _ from g6.trans rfl))) ?_
   refine .cons (fun E h => OpStep.no (t := 7) rfl rfl (lt_ok rfl) ((h.get 7 (by decide)).trans rfl) (by decide) rfl (lt_ok rfl)) ?_
   refine .cons (fun E h => OpStep.no (t := 7) rfl rfl (lt_ok rfl) ((h.get 7 (by decide)).trans rfl) (by decide) rfl (lt_ok rfl)) ?_
   refine .cons (fun E h => OpStep.no (t := 7) rfl rfl (lt_ok rfl) ((h.get 7 (by decide)).trans rfl) (by decide) rfl (lt_ok rfl)) ?_
   refine .cons (fun E h => by have g7 := h.get 7 (by decide); have g10 := h.get 10 (by decide); exact OpStep.plain rfl (Step.pick (b := false) (p := (.one (.d (.bool false)))) (t := 11) rfl rfl (by exact lt_ok rfl) (show Env.ev E (.tmp 7) = _ from g7.trans rfl) rfl)) ?_
   refine .cons (fun E h => by have g11 := h.get 11 (by decide); exact OpStep.plain rfl (Step.move (p := (.one (.d (.bool false)))) (t := 12) rfl rfl (by exact lt_ok rfl) (show Env.ev E (.tmp 11) = _ from g11.trans rfl))) ?_
   refine .cons (fun E h => OpStep.no (t := 12) rfl rfl (lt_ok rfl) ((h.get 12 (by decide)).trans rfl) (by decide) rfl (lt_ok rfl)) ?_
   refine .cons (fun E h => OpStep.no (t := 12) rfl rfl (lt_ok rfl) ((h.get 12 (by decide)).trans rfl) (by decide) rfl (lt_ok rfl)) ?_
   refine .cons (fun E h => OpStep.no (t := 12) rfl rfl (lt_ok rfl) ((h.get 12 (by decide)).trans rfl) (by decide) rfl (lt_ok rfl)) ?_
   refine .cons (fun E h => OpStep.no (t := 12) rfl rfl (lt_ok rfl) ((h.get 12 (by decide)).trans rfl) (by decide) rfl (lt_ok rfl)) ?_
   refine .cons (fun E h => OpStep.no (t := 12) rfl rfl (lt_ok rfl) ((h.get 12 (by decide)).trans rfl) (by decide) rfl (lt_ok rfl)) ?_
   refine .cons (fun E h => by have g12 := h.get 12 (by decide); have g17 := h.get 17 (by decide); exact OpStep.plain rfl (Step.pick (b := false) (p := (.one (.d (.bool false)))) (t := 18) rfl rfl (by exact lt_ok rfl) (show Env.ev E (.tmp 12) = _ from g12.trans rfl) rfl)) ?_
   refine .cons (fun E h => by have g18 := h.get 18 (by decide); exact OpStep.plain rfl (Step.move (p := (.one (.d (.bool false)))) (t := 19) rfl rfl (by exact lt_ok rfl) (show Env.ev E (.tmp 18) = _ from g18.trans rfl))) ?_
   refine .cons (fun E h => OpStep.no (t := 19) rfl rfl (lt_ok rfl) ((h.get 19 (by decide)).trans rfl) (by decide) rfl (lt_ok rfl)) ?_
   refine .cons (fun E h => OpStep.no (t := 19) rfl rfl (lt_ok rfl) ((h.get 19 (by decide)).trans rfl) (by decide) rfl (lt_ok rfl)) ?_
   refine .cons (fun E h => OpStep.no (t := 19) rfl rfl (lt_ok rfl) ((h.get 19 (by decide)).trans rfl) (by decide) rfl (lt_ok rfl)) ?_
   refine .cons (fun E h => OpStep.no (t := 19) rfl rfl (lt_ok rfl) ((h.get 19 (by decide)).trans rfl) (by decide) rfl (lt_ok rfl)) ?_
   refine .cons (fun E h => OpStep.no (t := 19) rfl rfl (lt_ok rfl) ((h.get 19 (by decide)).trans rfl) (by decide) rfl (lt_ok rfl)) ?_
   refine .cons (fun E h => OpStep.no (t := 19) rfl rfl (lt_ok rfl) ((h.get 19 (by decide)).trans rfl) (by decide) rfl (lt_ok rfl)) ?_
   refine .cons (fun E h => by have g19 := h.get 19 (by decide); have g25 := h.get 25 (by decide); exact OpStep.plain rfl (Step.pick (b := false) (p := (.one (.d (.bool false)))) (t := 26) rfl rfl (by exact lt_ok rfl) (show Env.ev E (.tmp 19) = _ from g19.trans rfl) rfl)) ?_
   refine .cons (fun E h => by have g26 := h.get 26 (by decide); exact OpStep.plain rfl (Step.move (p := (.one (.d (.bool false)))) (t := 27) rfl rfl (by exact lt_ok rfl) (show Env.ev E (.tmp 26) = _ from g26.trans rfl))) ?_
   refine .cons (fun E h => OpStep.no (t := 27) rfl rfl (lt_ok rfl) ((h.get 27 (by decide)).trans rfl) (by decide) rfl (lt_ok rfl)) ?_
   refine .cons (fun E h => OpStep.no (t := 27) rfl rfl (lt_ok rfl) ((h.get 27 (by decide)).trans rfl) (by decide) rfl (lt_ok rfl)) ?_
   refine .cons (fun E h => OpStep.no (t := 27) rfl rfl (lt_ok rfl) ((h.get 27 (by decide)).trans rfl) (by decide) rfl (lt_ok rfl)) ?_
   refine .cons (fun E h => OpStep.no (t := 27) rfl rfl (lt_ok rfl) ((h.get 27 (by decide)).trans rfl) (by decide) rfl (lt_ok rfl)) ?_
   refine .cons (fun E h => OpStep.no (t := 27) rfl rfl (lt_ok rfl) ((h.get 27 (by decide)).trans rfl) (by decide) rfl (lt_ok rfl)) ?_
   refine .cons (fun E h => OpStep.no (t := 27) rfl rfl (lt_ok rfl) ((h.get 27 (by decide)).trans rfl) (by decide) rfl (lt_ok rfl)) ?_
   refine .cons (fun E h => by have g27 := h.get 27 (by decide); have g33 := h.get 33 (by decide); exact OpStep.plain rfl (Step.pick (b := false) (p := (.one (.d (.bool false)))) (t := 34) rfl rfl (by exact lt_ok rfl) (show Env.ev E (.tmp 27) = _ from g27.trans rfl) rfl)) ?_
   refine .cons (fun E h => by have g34 := h.get 34 (by decide); exact OpStep.plain rfl (Step.move (p := (.one (.d (.bool false)))) (t := 35) rfl rfl (by exact lt_ok rfl) (show Env.ev E (.tmp 34) = _ from g34.trans rfl))) ?_
   refine .cons (fun E h => OpStep.no (t := 35) rfl rfl (lt_ok rfl) ((h.get 35 (by decide)).trans rfl) (by decide) rfl (lt_ok rfl)) ?_
   refine .cons (fun E h => OpStep.no (t := 35) rfl rfl (lt_ok rfl) ((h.get 35 (by decide)).trans rfl) (by decide) rfl (lt_ok rfl)) ?_
   refine .cons (fun E h => OpStep.no (t := 35) rfl rfl (lt_ok rfl) ((h.get 35 (by decide)).trans rfl) (by decide) rfl (lt_ok rfl)) ?_
   refine .cons (fun E h => OpStep.no (t := 35) rfl rfl (lt_ok rfl) ((h.get 35 (by decide)).trans rfl) (by decide) rfl (lt_ok rfl)) ?_
   refine .cons (fun E h => OpStep.no (t := 35) rfl rfl (lt_ok rfl) ((h.get 35 (by decide)).trans rfl) (by decide) rfl (lt_ok rfl)) ?_
   refine .cons (fun E h => OpStep.no (t := 35) rfl rfl (lt_ok rfl) ((h.get 35 (by decide)).trans rfl) (by decide) rfl (lt_ok rfl)) ?_
   refine .cons (fun E h => OpStep.no (t := 35) rfl rfl (lt_ok rfl) ((h.get 35 (by decide)).trans rfl) (by decide) rfl (lt_ok rfl)) ?_
   refine .cons (fun E h => OpStep.no (t := 35) rfl rfl (lt_ok rfl) ((h.get 35 (by decide)).trans rfl) (by decide) rfl (lt_ok rfl)) ?_
   refine .cons (fun E h => OpStep.no (t := 35) rfl rfl (lt_ok rfl) ((h.get 35 (by decide)).trans rfl) (by decide) rfl (lt_ok rfl)) ?_
   refine .cons (fun E h => by have g35 := h.get 35 (by decide); have g44 := h.get 44 (by decide); exact OpStep.plain rfl (Step.pick (b := false) (p := (.one (.d (.bool false)))) (t := 45) rfl rfl (by exact lt_ok rfl) (show Env.ev E (.tmp 35) = _ from g35.trans rfl) rfl)) ?_
   refine .cons (fun E h => by have g45 := h.get 45 (by decide); exact OpStep.plain rfl (Step.move (p := (.one (.d (.bool false)))) (t := 46) rfl rfl (by exact lt_ok rfl) (show Env.ev E (.tmp 45) = _ from g45.trans rfl))) ?_
   refine .cons (fun E h => OpStep.no (t := 46) rfl rfl (lt_ok rfl) ((h.get 46 (by decide)).trans rfl) (by decide) rfl (lt_ok rfl)) ?_
   refine .cons (fun E h => OpStep.no (t := 46) rfl rfl (lt_ok rfl) ((h.get 46 (by decide)).trans rfl) (by decide) rfl (lt_ok rfl)) ?_
   refine .cons (fun E h => OpStep.no (t := 46) rfl rfl (lt_ok rfl) ((h.get 46 (by decide)).trans rfl) (by decide) rfl (lt_ok rfl)) ?_
   refine .cons (fun E h => by have g46 := h.get 46 (by decide); have g49 := h.get 49 (by decide); exact OpStep.plain rfl (Step.pick (b := false) (p := (.one (.d (.bool false)))) (t := 50) rfl rfl (by exact lt_ok rfl) (show Env.ev E (.tmp 46) = _ from g46.trans rfl) rfl)) ?_
   refine .cons (fun E h => by have g50 := h.get 50 (by decide); exact OpStep.plain rfl (Step.assign (p := (.one (.d (.bool false)))) (t := 4) rfl rfl (by exact lt_ok rfl) (show Env.ev E (.tmp 50) = _ from g50.trans rfl))) ?_
   exact .nil _ _
  refine TL.nil ?_
  refine T.weaken (E' := { tm := [(4, (.one (.d (.bool false))))], rows := [], boxes := [] }) (Env.le_mk ⟨by kernel_rfl, trivial⟩ trivial trivial) ?_
  refine T.ret ?_
  exact ⟨[(false, [.d (.bool false)])], (.cons rfl .nil), rfl, [], (RetC.rd' (by first | rfl | (congr 1; symm; simp only [inclOk, *, Bool.and_true, Bool.true_and, Bool.and_false, Bool.false_and, decide_true, decide_false, and_true, true_and, and_self, and_false, false_and, Bool.and_self, not_true, not_false, Bool.not_true, Bool.not_false, ge_iff_le, gt_iff_lt, if_true, if_false, Bool.false_eq_true, ite_true, ite_false, reduceIte]; done) | (congr 1; symm; simp_all [inclOk]; done) | (congr 1; symm; simp_all [inclOk]; omega)) .nil)⟩
theorem ok_impl_PutText (b : List Int) (x : List Int) (h0_ : b.length ≤ 1099511627776) (h1_ : x.length ≤ 1099511627776) : RO Try.prog 115 [.one (.ints .u8 b), .one (.ints .u8 x)] [(false, [.own 5 (.ints .u8 (putVar b (x.length : Int) ++ x))])] := by
 refine RO.intro Try.func115 rfl 17 rfl (le_ok rfl) fun w Z => ?_
 refine T.bnd 0 0 rfl rfl fun hb_0_0 => ?_
 simp only [D.size, List.length_map] at hb_0_0
 refine T.bnd 1 0 rfl rfl fun hb_1_0 => ?_
 simp only [D.size, List.length_map] at hb_1_0
 refine T.seq ?_
 refine T.region ?_
 refine TL.cons rfl (Step.assign (p := (.one (.nil))) rfl rfl (lt_ok rfl) rfl) ?_
 refine TL.nil ?_
 refine T.seq ?_
 refine T.region ?_
 refine TL.cons rfl (Step.move (p := (.one (.d (.ints .u8 b)))) rfl rfl (lt_ok rfl) rfl) ?_
 refine TL.cons rfl (Step.move (p := (.one (.d (.ints .u8 x)))) rfl rfl (lt_ok rfl) rfl) ?_
 refine TL.cons rfl (Step.len (e := 5) (z := 1) (d := (.ints .u8 x)) rfl rfl (lt_ok rfl) (by kernel_rfl) rfl rfl) ?_
 have nn1 := putVar_len b (x.length : Int)
 refine TL.cons rfl (Step.call (f := 160) (xs := [.tmp 8, .tmp 10]) (ps := [(.one (.d (.ints .u8 b))), (.one (.d (.int .i64 (x.length : Int))))]) false (g := .func 160) rfl rfl (lt_ok rfl) rfl (by kernel_rfl) rfl (.cons (.one (.d _)) (.cons (.one (.d _)) .nil)) (ok_impl_PutVar b (x.length : Int) (by first | omega | assumption | (simp only [List.length_append] at *; omega))) (.inr rfl) rfl (by simp) rfl) ?_
 refine TL.cons rfl (Step.move (p := (.tup [(false, [.row 1011 []]), (false, [.d (.bool (decide (0 ≤ (x.length : Int) ∧ (x.length : Int) ≤ 1152921504606846975)))])])) rfl rfl (lt_ok rfl) rfl) ?_
 refine TL.cons rfl (Step.extract (p := (.one (.row 1011 []))) rfl rfl (lt_ok rfl) rfl rfl) ?_
 refine TL.cons rfl (Step.extract (p := (.one (.d (.bool (decide (0 ≤ (x.length : Int) ∧ (x.length : Int) ≤ 1152921504606846975)))))) rfl rfl (lt_ok rfl) rfl rfl) ?_
 refine TL.cons rfl (Step.assign (p := (.one (.row 1011 []))) rfl rfl (lt_ok rfl) rfl) ?_
 refine TL.cons rfl (Step.assign (p := (.one (.d (.bool (decide (0 ≤ (x.length : Int) ∧ (x.length : Int) ≤ 1152921504606846975)))))) rfl rfl (lt_ok rfl) rfl) ?_
 refine TL.nil ?_
 refine T.seq ?_
 refine T.region ?_
 refine TL.cons rfl (Step.move (p := (.one (.row 1011 []))) rfl rfl (lt_ok rfl) rfl) ?_
 refine TL.cons rfl (Step.move (p := (.one (.d (.ints .u8 x)))) rfl rfl (lt_ok rfl) rfl) ?_
 refine TL.cons rfl (Step.append (e := 5) (z := 1) (by_ := 1) (d := (.ints .u8 (putVar b (x.length : Int)))) (dy := (.ints .u8 x)) (d' := (.ints .u8 ((putVar b (x.length : Int)) ++ x))) (ss := []) rfl rfl (lt_ok rfl) (by kernel_rfl) rfl rfl rfl (lt_ok rfl) rfl (.froz rfl (by simp [D.flat, D.val])) (by simp) rfl (by simp only [D.size, List.length_map]; first | omega | (simp; omega) | (simp only [List.length_append] at *; omega)) (by simp only [D.size, List.length_map]; first | omega | (simp; omega) | (simp only [List.length_append] at *; omega)) (by simp)) ?_
 refine TL.cons rfl (Step.assign (p := (.one (.row 1011 []))) rfl rfl (lt_ok rfl) rfl) ?_
 refine TL.nil ?_
 refine T.ret ?_
 exact ⟨[(false, [.row 1011 []])], (.cons rfl .nil), rfl, [1011], (RetC.own' rfl (by rfl) rfl .nil)⟩
theorem ok_impl_PutIncl (l : SLimits) (b : List Int) (x : SIncl) (h0_ : b.length ≤ 549755813888) (h1_ : x.sm) : RO Try.prog 56 [.agg l.cells, .one (.ints .u8 b), .agg x.cells] [(false, [.own 5 (.ints .u8 (putIncl l b x))]), (false, [.rd (.bool (inclOk l x))])] := by
 refine RO.intro Try.func56 rfl 56 rfl (le_ok rfl) fun w Z => ?_
 refine T.bnd 1 0 rfl rfl fun hb_1_0 => ?_
 simp only [D.size, List.length_map] at hb_1_0
 refine T.bnd 2 3 rfl rfl fun hb_2_3 => ?_
 simp only [D.size, List.length_map] at hb_2_3
 refine T.bnd 2 4 rfl rfl fun hb_2_4 => ?_
 simp only [D.size, List.length_map] at hb_2_4
 obtain ⟨s0, s1⟩ := h1_
 refine T.seq ?_
 refine T.region ?_
 refine TL.cons rfl (Step.box (p := (.agg [.d (.int .i64 l.f0), .d (.int .i64 l.f1), .d (.int .i64 l.f2), .d (.int .i64 l.f3), .d (.int .i64 l.f4)])) (ps := [.d (.int .i64 l.f0), .d (.int .i64 l.f1), .d (.int .i64 l.f2), .d (.int .i64 l.f3), .d (.int .i64 l.f4)]) rfl rfl (lt_ok rfl) rfl rfl rfl rfl rfl) ?_
 refine TL.cons rfl (Step.box (p := (.agg [.d (.int .i64 x.f0), .d (.int .i64 x.f1), .d (.int .i64 x.f2), .d (.ints .u8 x.f3), .d (.bss x.f4)])) (ps := [.d (.int .i64 x.f0), .d (.int .i64 x.f1), .d (.int .i64 x.f2), .d (.ints .u8 x.f3), .d (.bss x.f4)]) rfl rfl (lt_ok rfl) rfl rfl rfl rfl rfl) ?_
 refine TL.cons rfl (Step.assign (p := (.one (.nil))) rfl rfl (lt_ok rfl) rfl) ?_
 refine TL.cons rfl (Step.assign (p := (.one (.d (.bool false)))) rfl rfl (lt_ok rfl) rfl) ?_
 refine TL.nil ?_
 refine T.seq ?_
 refine T.seq ?_
 refine T.region ?_
 refine TL.cons rfl (Step.load_box_agg (n := 5) (qs := [.d (.int .i64 l.f0), .d (.int .i64 l.f1), .d (.int .i64 l.f2), .d (.int .i64 l.f3), .d (.int .i64 l.f4)]) rfl rfl (lt_ok rfl) (by kernel_rfl) rfl rfl rfl rfl) ?_
 refine TL.cons rfl (Step.load_box_agg (n := 5) (qs := [.d (.int .i64 x.f0), .d (.int .i64 x.f1), .d (.int .i64 x.f2), .d (.ints .u8 x.f3), .d (.bss x.f4)]) rfl rfl (lt_ok rfl) (by kernel_rfl) rfl rfl rfl rfl) ?_
 refine TL.cons rfl (Step.call (f := 114) (xs := [.tmp 11, .tmp 12]) (ps := [(.agg [.d (.int .i64 l.f0), .d (.int .i64 l.f1), .d (.int .i64 l.f2), .d (.int .i64 l.f3), .d (.int .i64 l.f4)]), (.agg [.d (.int .i64 x.f0), .d (.int .i64 x.f1), .d (.int .i64 x.f2), .d (.ints .u8 x.f3), .d (.bss x.f4)])]) false (g := .func 114) rfl rfl (lt_ok rfl) rfl (by kernel_rfl) rfl (.cons (.agg (.cons (.d _) (.cons (.d _) (.cons (.d _) (.cons (.d _) (.cons (.d _) .nil)))))) (.cons (.agg (.cons (.d _) (.cons (.d _) (.cons (.d _) (.cons (.d _) (.cons (.d _) .nil)))))) .nil)) (ok_impl_InclOk l x) (.inr rfl) rfl (by simp) rfl) ?_
 refine TL.cons rfl (Step.not (b := (inclOk l x)) rfl rfl (lt_ok rfl) rfl) ?_
 refine TL.nil ?_
 refine T.cond (b := !(inclOk l x)) rfl (fun h1 => ?_) (fun h1 => ?_)
 ·
  replace h1 : (inclOk l x) = false := by simpa only [Bool.not_eq_true', Bool.not_eq_false'] using h1
  refine T.seq ?_
  refine T.region ?_
  refine TL.cons rfl (Step.assign (p := (.one (.nil))) rfl rfl (lt_ok rfl) rfl) ?_
  refine TL.cons rfl (Step.assign (p := (.one (.d (.bool false)))) rfl rfl (lt_ok rfl) rfl) ?_
  refine TL.nil ?_
  refine T.ret ?_
  exact ⟨[(false, [.nil]), (false, [.d (.bool false)])], (.cons rfl (.cons rfl .nil)), rfl, [], (RetC.nilown' rfl (by first | rfl | (congr 1; unfold putIncl putInclB rawsB; rw [if_pos (by assumption), foldl_all _ _ _ i (by omega)]) | (show (putIncl l b x).length = 0; unfold putIncl; rw [if_neg (by simp [*])]; rfl) | (congr 1; symm; assumption)) (by first | exact trivial | exact D.wf_nil _) (RetC.rd' (by first | rfl | (congr 1; unfold putIncl putInclB rawsB; rw [if_pos (by assumption), foldl_all _ _ _ i (by omega)]) | (show (putIncl l b x).length = 0; unfold putIncl; rw [if_neg (by simp [*])]; rfl) | (congr 1; symm; assumption)) .nil))⟩
 ·
  replace h1 : (inclOk l x) = true := by simpa only [Bool.not_eq_true', Bool.not_eq_false'] using h1
  refine T.skip ?_
  refine T.seq ?_
  refine T.region ?_
  refine TL.cons rfl (Step.move (p := (.one (.d (.ints .u8 b)))) rfl rfl (lt_ok rfl) rfl) ?_
  refine TL.cons rfl (Step.call (f := 83) (xs := [.tmp 15]) (ps := [(.one (.d (.ints .u8 b)))]) false (g := .func 83) rfl rfl (lt_ok rfl) rfl (by kernel_rfl) rfl (.cons (.one (.d _)) .nil) (ok_impl_copyBytes b (by first | omega | assumption)) (.inr rfl) rfl (by simp) rfl) ?_
  refine TL.cons rfl (Step.build (zs := [.slice none 0 0]) (places := [(0, 1)]) (pss := [(0, [.row 1016 []])]) (ps' := [.row 1016 []]) rfl rfl (lt_ok rfl) (by kernel_rfl) (.cons ⟨rfl, rfl⟩ .nil) rfl rfl rfl) ?_
  refine TL.cons rfl (Step.box (p := (.agg [.row 1016 []])) (ps := [.row 1016 []]) rfl rfl (lt_ok rfl) rfl rfl rfl rfl rfl) ?_
  refine TL.cons rfl (Step.assign (p := (.one (.ptr 18 0))) rfl rfl (lt_ok rfl) rfl) ?_
  refine TL.nil ?_
  refine T.seq ?_
  refine T.region ?_
  refine TL.cons rfl (Step.move (p := (.one (.ptr 18 0))) rfl rfl (lt_ok rfl) rfl) ?_
  refine TL.cons rfl (Step.fieldAddr (q := 0) (off := 0) (n := 1) (one := true) rfl rfl (lt_ok rfl) (by kernel_rfl) (Nat.succ_ne_zero _) rfl) ?_
  refine TL.cons rfl (Step.load_box (c := .d (.int .i64 x.f0)) rfl rfl (lt_ok rfl) (by kernel_rfl) rfl rfl rfl) ?_
  have nn2 := putVar_len b x.f0
  refine TL.cons rfl (Step.callX (f := 110) (b := 18) (T := 136) (xs := [.tmp 19, .tmp 21]) (ps := [(.one (.ptr 18 0)), (.one (.d (.int .i64 x.f0)))]) (args := [.bx, .rd (.one (.int .i64 x.f0))]) (bps := [.row 1016 []]) (cs := [.own 5 (.ints .u8 b)]) (cs' := [.own 5 (.ints .u8 (putVar b x.f0))]) (res := []) (ss := [1016]) (g := .func 110) rfl rfl (lt_ok rfl) rfl (by kernel_rfl) rfl (.cons (.bx) (.cons (.rd (.one (.d _))) .nil)) rfl (.own rfl (by simp) .nil) (ok_impl_writer__num b x.f0 (by first | omega | assumption | (simp only [List.length_append] at *; omega))) rfl rfl (by simp) rfl) ?_
  refine TL.ren 1022 101800 rfl (by simp) ?_
  refine TL.nil ?_
  refine T.seq ?_
  refine T.region ?_
  refine TL.cons rfl (Step.move (p := (.one (.ptr 18 0))) rfl rfl (lt_ok rfl) rfl) ?_
  refine TL.cons rfl (Step.fieldAddr (q := 0) (off := 1) (n := 1) (one := true) rfl rfl (lt_ok rfl) (by kernel_rfl) (Nat.succ_ne_zero _) rfl) ?_
  refine TL.cons rfl (Step.load_box (c := .d (.int .i64 x.f1)) rfl rfl (lt_ok rfl) (by kernel_rfl) rfl rfl rfl) ?_
  have nn3 := putVar_len (putVar b x.f0) x.f1
  refine TL.cons rfl (Step.callX (f := 110) (b := 18) (T := 136) (xs := [.tmp 23, .tmp 25]) (ps := [(.one (.ptr 18 0)), (.one (.d (.int .i64 x.f1)))]) (args := [.bx, .rd (.one (.int .i64 x.f1))]) (bps := [.row 101800 []]) (cs := [.own 5 (.ints .u8 (putVar b x.f0))]) (cs' := [.own 5 (.ints .u8 (putVar (putVar b x.f0) x.f1))]) (res := []) (ss := [101800]) (g := .func 110) rfl rfl (lt_ok rfl) rfl (by kernel_rfl) rfl (.cons (.bx) (.cons (.rd (.one (.d _))) .nil)) rfl (.own rfl (by simp) .nil) (ok_impl_writer__num (putVar b x.f0) x.f1 (by first | omega | assumption | (simp only [List.length_append] at *; omega))) rfl rfl (by simp) rfl) ?_
  refine TL.ren 1026 101800 rfl (by simp) ?_
  refine TL.nil ?_
  refine T.seq ?_
  refine T.region ?_
  refine TL.cons rfl (Step.move (p := (.one (.ptr 18 0))) rfl rfl (lt_ok rfl) rfl) ?_
  refine TL.cons rfl (Step.fieldAddr (q := 0) (off := 2) (n := 1) (one := true) rfl rfl (lt_ok rfl) (by kernel_rfl) (Nat.succ_ne_zero _) rfl) ?_
  refine TL.cons rfl (Step.load_box (c := .d (.int .i64 x.f2)) rfl rfl (lt_ok rfl) (by kernel_rfl) rfl rfl rfl) ?_
  have nn4 := putVar_len (putVar (putVar b x.f0) x.f1) x.f2
  refine TL.cons rfl (Step.callX (f := 110) (b := 18) (T := 136) (xs := [.tmp 27, .tmp 29]) (ps := [(.one (.ptr 18 0)), (.one (.d (.int .i64 x.f2)))]) (args := [.bx, .rd (.one (.int .i64 x.f2))]) (bps := [.row 101800 []]) (cs := [.own 5 (.ints .u8 (putVar (putVar b x.f0) x.f1))]) (cs' := [.own 5 (.ints .u8 (putVar (putVar (putVar b x.f0) x.f1) x.f2))]) (res := []) (ss := [101800]) (g := .func 110) rfl rfl (lt_ok rfl) rfl (by kernel_rfl) rfl (.cons (.bx) (.cons (.rd (.one (.d _))) .nil)) rfl (.own rfl (by simp) .nil) (ok_impl_writer__num (putVar (putVar b x.f0) x.f1) x.f2 (by first | omega | assumption | (simp only [List.length_append] at *; omega))) rfl rfl (by simp) rfl) ?_
  refine TL.ren 1030 101800 rfl (by simp) ?_
  refine TL.nil ?_
  refine T.seq ?_
  have nn5 := putVar_len (putVar (putVar (putVar b x.f0) x.f1) x.f2) ((x.f3).length : Int)
  refine T.draw [⟨31, (.one (.ptr 18 0)), []⟩, ⟨32, (.one (.ptr 18 0)), []⟩, ⟨33, (.one (.ptr 18 0)), []⟩, ⟨34, (.one (.ptr 18 0)), []⟩, ⟨35, (.one (.row 101800 [])), []⟩, ⟨36, (.one (.ptr 5 3)), []⟩, ⟨37, (.one (.d (.ints .u8 x.f3))), []⟩, ⟨38, (.one (.row 1038 [])), [(1038, (5, (.ints .u8 (putVar (putVar (putVar (putVar b x.f0) x.f1) x.f2) (x.f3.length : Int) ++ x.f3))))]⟩, ⟨39, (.one (.ptr 18 0)), []⟩, ⟨40, (.one (.ptr 18 0)), []⟩] (by kernel_rfl) (by kernel_rfl) ?_ ?_
  ·
   refine .cons (fun E h => by have g8 := h.get 8 (by decide); exact OpStep.plain rfl (Step.move (p := (.one (.ptr 18 0))) (t := 31) rfl rfl (by exact lt_ok rfl) (show Env.ev E (.tmp 8) = _ from g8.trans rfl))) ?_
   refine .cons (fun E h => by have g8 := h.get 8 (by decide); exact OpStep.plain rfl (Step.move (p := (.one (.ptr 18 0))) (t := 32) rfl rfl (by exact lt_ok rfl) (show Env.ev E (.tmp 8) = _ from g8.trans rfl))) ?_
   refine .cons (fun E h => by have g32 := h.get 32 (by decide); exact OpStep.plain rfl (Step.nilCheck (t := 33) rfl rfl (by exact lt_ok rfl) (show Env.ev E (.tmp 32) = _ from g32.trans rfl))) ?_
   refine .cons (fun E h => by have g33 := h.get 33 (by decide); exact OpStep.plain rfl (Step.fieldAddr (q := 0) (off := 0) (n := 1) (one := true) (t := 34) rfl rfl (by exact lt_ok rfl) (by kernel_rfl) (Nat.succ_ne_zero _) (show Env.ev E (.tmp 33) = _ from g33.trans rfl))) ?_
   refine .cons (fun E h => by have g34 := h.get 34 (by decide); exact OpStep.plain rfl (Step.load_box (c := .row 101800 []) (t := 35) rfl rfl (by exact lt_ok rfl) (by kernel_rfl) (show Env.ev E (.tmp 34) = _ from g34.trans rfl) (by exact h.box rfl) rfl)) ?_
   refine .cons (fun E h => by have g5 := h.get 5 (by decide); exact OpStep.plain rfl (Step.fieldAddr (q := 0) (off := 3) (n := 1) (one := true) (t := 36) rfl rfl (by exact lt_ok rfl) (by kernel_rfl) (Nat.succ_ne_zero _) (show Env.ev E (.tmp 5) = _ from g5.trans rfl))) ?_
   refine .cons (fun E h => by have g36 := h.get 36 (by decide); exact OpStep.plain rfl (Step.load_box (c := .d (.ints .u8 x.f3)) (t := 37) rfl rfl (by exact lt_ok rfl) (by kernel_rfl) (show Env.ev E (.tmp 36) = _ from g36.trans rfl) (by exact h.box rfl) rfl)) ?_
   refine .cons (fun E h => by have g35 := h.get 35 (by decide); have g37 := h.get 37 (by decide); exact OpStep.plain rfl (Step.call (f := 115) (xs := [.tmp 35, .tmp 37]) (ps := [(.one (.row 101800 [])), (.one (.d (.ints .u8 x.f3)))]) false (g := .func 115) (t := 38) rfl rfl (by exact lt_ok rfl) rfl (by kernel_rfl) (evs_cons (show Env.ev E (.tmp 35) = _ from g35.trans rfl) (evs_cons (show Env.ev E (.tmp 37) = _ from g37.trans rfl) (rfl))) (.cons (.one (.row rfl (by exact (h.row 101800 (by kernel_rfl)).trans rfl) rfl rfl)) (.cons (.one (.d _)) .nil)) (ok_impl_PutText (putVar (putVar (putVar b x.f0) x.f1) x.f2) x.f3 (by first | omega | assumption | (simp only [List.length_append] at *; omega)) (by first | omega | assumption | (simp only [List.length_append] at *; omega))) (.inr rfl) (At.freshRows h rfl) (by simp) rfl)) ?_
   refine .cons (fun E h => by have g31 := h.get 31 (by decide); exact OpStep.plain rfl (Step.nilCheck (t := 39) rfl rfl (by exact lt_ok rfl) (show Env.ev E (.tmp 31) = _ from g31.trans rfl))) ?_
   refine .cons (fun E h => by have g39 := h.get 39 (by decide); exact OpStep.plain rfl (Step.fieldAddr (q := 0) (off := 0) (n := 1) (one := true) (t := 40) rfl rfl (by exact lt_ok rfl) (by kernel_rfl) (Nat.succ_ne_zero _) (show Env.ev E (.tmp 39) = _ from g39.trans rfl))) ?_
   exact .nil _ _
  refine TL.cons rfl (Step.store_box (n := 1) (p := (.one (.row 1038 []))) (qs := [.row 1038 []]) (ps' := [.row 1038 []]) rfl rfl (by kernel_rfl) rfl rfl rfl rfl rfl rfl (le_ok rfl) rfl) ?_
  refine TL.weaken (Env.drops_le [101800] _) ?_
  refine TL.ren 1038 101800 rfl (by simp) ?_
  refine TL.nil ?_
  refine T.seq ?_
  refine T.seq ?_
  refine T.region ?_
  refine TL.cons rfl (Step.fieldAddr (q := 0) (off := 4) (n := 1) (one := true) rfl rfl (lt_ok rfl) (by kernel_rfl) (Nat.succ_ne_zero _) rfl) ?_
  refine TL.cons rfl (Step.load_box (c := .d (.bss x.f4)) rfl rfl (lt_ok rfl) (by kernel_rfl) rfl rfl rfl) ?_
  refine TL.cons rfl (Step.len (e := 22) (z := 1) (d := (.bss x.f4)) rfl rfl (lt_ok rfl) (by kernel_rfl) rfl rfl) ?_
  refine TL.cons rfl (Step.move (p := (.one (.d (.int .i64 0)))) rfl rfl (lt_ok rfl) rfl) ?_
  refine TL.nil ?_
  refine T.block ?_
  refine T.loop (ι := Nat) (fun xx_ => { tm := [(6, (.one (.nil))), (7, (.one (.d (.bool false)))), (8, (.one (.ptr 18 0))), (42, (.one (.d (.bss x.f4)))), (43, (.one (.d (.int .i64 (x.f4.length : Int))))), (44, (.one (.d (.int .i64 (xx_ : Int)))))], rows := [(101800, (5, (.ints .u8 ((x.f4.take xx_).foldl (fun b x => b ++ x) (putVar (putVar (putVar (putVar b x.f0) x.f1) x.f2) (x.f3.length : Int) ++ x.f3)))))], boxes := [(3, (44, [.d (.int .i64 l.f0), .d (.int .i64 l.f1), .d (.int .i64 l.f2), .d (.int .i64 l.f3), .d (.int .i64 l.f4)])), (5, (73, [.d (.int .i64 x.f0), .d (.int .i64 x.f1), .d (.int .i64 x.f2), .d (.ints .u8 x.f3), .d (.bss x.f4)])), (18, (136, [.row 101800 []]))] }) (fun xx_ => xx_ ≤ x.f4.length) (fun xx_ => x.f4.length - xx_) 0 ?_ ?_ ?_
  · exact Env.le_mk ⟨rfl, rfl, rfl, rfl, rfl, by first | (refine congrArg (fun x => some (_, D.ints .u8 x)) ?_; first | (rw [foldl_take_succ _ _ _ i [] (by omega)]; done) | rfl) | rfl | (refine congrArg (fun n => PV.one (.d (.int .i64 n))) ?_; first | omega | (simp; done)), trivial⟩ ⟨by first | (refine congrArg (fun x => some (_, D.ints .u8 x)) ?_; first | (rw [foldl_take_succ _ _ _ i [] (by omega)]; done) | rfl) | rfl | (refine congrArg (fun n => PV.one (.d (.int .i64 n))) ?_; first | omega | (simp; done)), trivial⟩ ⟨rfl, rfl, rfl, trivial⟩
  · exact Nat.zero_le _
  ·
   intro i hx
   try dsimp only at hx ⊢
   have hw_ := raws_len (b := putVar (putVar (putVar (putVar b x.f0) x.f1) x.f2) (x.f3.length : Int) ++ x.f3) s1.1 s1.2 i
   have hy_ := mem_len s1.2 i
   simp only [List.length_append] at hw_
   refine T.seq ?_
   refine T.region ?_
   refine TL.cons rfl (Step.bin rfl rfl (lt_ok rfl) rfl rfl (Bin.lss (k := .i64) (a := (i : Int)) (b := (x.f4.length : Int)))) ?_
   refine TL.nil ?_
   refine T.seq ?_
   refine T.cond (b := decide ((i : Int) < (x.f4.length : Int))) rfl (fun h6 => ?_) (fun h6 => ?_)
   ·
    replace h6 := of_decide_eq_true h6
    refine T.skip ?_
    refine T.seq ?_
    refine T.block ?_
    refine T.seq ?_
    refine T.region ?_
    refine TL.cons rfl (Step.index (e := 22) (z := 1) (i := (i : Int)) rfl rfl (lt_ok rfl) (by kernel_rfl) rfl rfl rfl (lt_ok rfl) rfl (by first | omega | (simp only [List.length_append] at *; omega) | (simp; omega)) (by simp only [D.size]; first | omega | (simp only [List.length_append] at *; omega) | (simp; omega))) ?_
    refine TL.cons rfl (Step.load (e := (.ints .u8 (x.f4.getD i []))) rfl rfl (lt_ok rfl) (by kernel_rfl) rfl rfl) ?_
    refine TL.cons rfl (Step.assign (p := (.one (.d (.ints .u8 (x.f4.getD i []))))) rfl rfl (lt_ok rfl) rfl) ?_
    refine TL.nil ?_
    refine T.region ?_
    refine TL.cons rfl (Step.move (p := (.one (.ptr 18 0))) rfl rfl (lt_ok rfl) rfl) ?_
    refine TL.cons rfl (Step.move (p := (.one (.d (.ints .u8 (x.f4.getD i []))))) rfl rfl (lt_ok rfl) rfl) ?_
    refine TL.cons rfl (Step.callX (f := 111) (b := 18) (T := 136) (xs := [.tmp 48, .tmp 49]) (ps := [(.one (.ptr 18 0)), (.one (.d (.ints .u8 (x.f4.getD i []))))]) (args := [.bx, .rd (.one (.ints .u8 (x.f4.getD i [])))]) (bps := [.row 101800 []]) (cs := [.own 5 (.ints .u8 ((x.f4.take i).foldl (fun b x => b ++ x) (putVar (putVar (putVar (putVar b x.f0) x.f1) x.f2) (x.f3.length : Int) ++ x.f3)))]) (cs' := [.own 5 (.ints .u8 (((x.f4.take i).foldl (fun b x => b ++ x) (putVar (putVar (putVar (putVar b x.f0) x.f1) x.f2) (x.f3.length : Int) ++ x.f3)) ++ (x.f4.getD i [])))]) (res := []) (ss := [101800]) (g := .func 111) rfl rfl (lt_ok rfl) rfl (by kernel_rfl) rfl (.cons (.bx) (.cons (.rd (.one (.d _))) .nil)) rfl (.own rfl (by simp) .nil) (ok_impl_writer__raw ((x.f4.take i).foldl (fun b x => b ++ x) (putVar (putVar (putVar (putVar b x.f0) x.f1) x.f2) (x.f3.length : Int) ++ x.f3)) (x.f4.getD i []) (by first | omega | assumption | (simp only [List.length_append] at *; omega)) (by first | omega | assumption | (simp only [List.length_append] at *; omega))) rfl rfl (by simp) rfl) ?_
    refine TL.ren 1050 101800 rfl (by simp) ?_
    refine TL.nil ?_
    refine T.region ?_
    refine TL.cons rfl (Step.bin (r := .int .i64 ((i : Int) + 1)) rfl rfl (lt_ok rfl) rfl rfl (Bin.add (a := (i : Int)) (b := 1) (by first | exact wrap_ok (by first | omega | (simp only [List.length_append] at *; omega) | (simp; omega)) (by first | omega | (simp only [List.length_append] at *; omega) | (simp; omega)) | rfl))) ?_
    refine TL.cons rfl (Step.move (p := (.one (.d (.int .i64 ((i : Int) + 1))))) rfl rfl (lt_ok rfl) rfl) ?_
    refine TL.nil ?_
    exact ⟨i + 1, by omega, by first | omega | (dsimp only; omega), Env.le_mk ⟨rfl, rfl, rfl, rfl, rfl, by first | (refine congrArg (fun x => some (_, D.ints .u8 x)) ?_; first | (rw [foldl_take_succ _ _ _ i [] (by omega)]; done) | rfl) | rfl | (refine congrArg (fun n => PV.one (.d (.int .i64 n))) ?_; first | omega | (simp; done)), trivial⟩ ⟨by first | (refine congrArg (fun x => some (_, D.ints .u8 x)) ?_; first | (rw [foldl_take_succ _ _ _ i [] (by omega)]; done) | rfl) | rfl | (refine congrArg (fun n => PV.one (.d (.int .i64 n))) ?_; first | omega | (simp; done)), trivial⟩ ⟨rfl, rfl, rfl, trivial⟩⟩
   ·
    replace h6 := of_decide_eq_false h6
    refine T.exit ?_
    refine T.seq ?_
    refine T.region ?_
    refine TL.cons rfl (Step.move (p := (.one (.ptr 18 0))) rfl rfl (lt_ok rfl) rfl) ?_
    refine TL.cons rfl (Step.nilCheck rfl rfl (lt_ok rfl) rfl) ?_
    refine TL.cons rfl (Step.fieldAddr (q := 0) (off := 0) (n := 1) (one := true) rfl rfl (lt_ok rfl) (by kernel_rfl) (Nat.succ_ne_zero _) rfl) ?_
    refine TL.cons rfl (Step.load_box (c := .row 101800 []) rfl rfl (lt_ok rfl) (by kernel_rfl) rfl rfl rfl) ?_
    refine TL.cons rfl (Step.assign (p := (.one (.row 101800 []))) rfl rfl (lt_ok rfl) rfl) ?_
    refine TL.cons rfl (Step.assign (p := (.one (.d (.bool true)))) rfl rfl (lt_ok rfl) rfl) ?_
    refine TL.nil ?_
    refine T.ret ?_
    exact ⟨[(false, [.row 101800 []]), (false, [.d (.bool true)])], (.cons rfl (.cons rfl .nil)), rfl, [101800], (RetC.own' rfl (by first | rfl | (congr 1; unfold putIncl putInclB rawsB; rw [if_pos (by assumption), foldl_all _ _ _ i (by omega)]) | (show (putIncl l b x).length = 0; unfold putIncl; rw [if_neg (by simp [*])]; rfl) | (congr 1; symm; assumption)) rfl (RetC.rd' (by first | rfl | (congr 1; unfold putIncl putInclB rawsB; rw [if_pos (by assumption), foldl_all _ _ _ i (by omega)]) | (show (putIncl l b x).length = 0; unfold putIncl; rw [if_neg (by simp [*])]; rfl) | (congr 1; symm; assumption)) .nil))⟩
theorem ok_laws_eqByteSS (a : List (List Int)) (b : List (List Int)) : RO Try.prog 84 [.one (.bss a), .one (.bss b)] [(false, [.rd (.bool (decide (a = b)))])] := by
 refine RO.intro Try.func84 rfl 27 rfl (le_ok rfl) fun w Z => ?_
 refine T.bnd 0 0 rfl rfl fun hb_0_0 => ?_
 simp only [D.size, List.length_map] at hb_0_0
 refine T.bnd 1 0 rfl rfl fun hb_1_0 => ?_
 simp only [D.size, List.length_map] at hb_1_0
 refine T.seq ?_
 refine T.region ?_
 refine TL.cons rfl (Step.assign (p := (.one (.d (.bool false)))) rfl rfl (lt_ok rfl) rfl) ?_
 refine TL.nil ?_
 refine T.seq ?_
 refine T.seq ?_
 refine T.region ?_
 refine TL.cons rfl (Step.move (p := (.one (.d (.bss a)))) rfl rfl (lt_ok rfl) rfl) ?_
 refine TL.cons rfl (Step.len (e := 22) (z := 1) (d := (.bss a)) rfl rfl (lt_ok rfl) (by kernel_rfl) rfl rfl) ?_
 refine TL.cons rfl (Step.move (p := (.one (.d (.bss b)))) rfl rfl (lt_ok rfl) rfl) ?_
 refine TL.cons rfl (Step.len (e := 22) (z := 1) (d := (.bss b)) rfl rfl (lt_ok rfl) (by kernel_rfl) rfl rfl) ?_
 refine TL.cons rfl (Step.bin rfl rfl (lt_ok rfl) rfl rfl (Bin.neq (k := .i64) (a := (a.length : Int)) (b := (b.length : Int)))) ?_
 refine TL.nil ?_
 refine T.cond (b := decide ((a.length : Int) ≠ (b.length : Int))) rfl (fun h1 => ?_) (fun h1 => ?_)
 ·
  replace h1 := of_decide_eq_true h1
  refine T.seq ?_
  refine T.region ?_
  refine TL.cons rfl (Step.assign (p := (.one (.d (.bool false)))) rfl rfl (lt_ok rfl) rfl) ?_
  refine TL.nil ?_
  refine T.ret ?_
  exact ⟨[(false, [.d (.bool false)])], (.cons rfl .nil), rfl, [], (RetC.rd' (by (congr 1; symm; first | (apply decide_eq_false; rintro rfl; first | exact absurd rfl ‹¬ _ = _› | exact absurd rfl (of_decide_eq_false (by assumption)) | contradiction | simp_all) | (apply decide_eq_true; exact take_all hx2 (by omega) hx3))) .nil)⟩
 ·
  replace h1 := of_decide_eq_false h1
  refine T.skip ?_
  refine T.seq ?_
  refine T.seq ?_
  refine T.region ?_
  refine TL.cons rfl (Step.assign (p := (.one (.d (.int .i64 0)))) rfl rfl (lt_ok rfl) rfl) ?_
  refine TL.nil ?_
  refine T.block ?_
  refine T.loop (ι := Nat) (fun xx_ => { tm := [(0, (.one (.d (.bss a)))), (1, (.one (.d (.bss b)))), (5, (.one (.d (.int .i64 (xx_ : Int)))))], rows := [], boxes := [] }) (fun xx_ => xx_ ≤ a.length ∧ a.length = b.length ∧ a.take xx_ = b.take xx_) (fun xx_ => a.length - xx_) 0 ?_ ?_ ?_
  · exact Env.le_mk ⟨rfl, rfl, by first | rfl | (simp; done) | (congr 3; omega), trivial⟩ trivial trivial
  · (refine ⟨Nat.zero_le _, by omega, by simp⟩)
  ·
   intro i hx
   try dsimp only at hx ⊢
   obtain ⟨hx1, hx2, hx3⟩ := hx
   refine T.seq ?_
   refine T.seq ?_
   refine T.region ?_
   refine TL.cons rfl (Step.move (p := (.one (.d (.int .i64 (i : Int))))) rfl rfl (lt_ok rfl) rfl) ?_
   refine TL.cons rfl (Step.move (p := (.one (.d (.bss a)))) rfl rfl (lt_ok rfl) rfl) ?_
   refine TL.cons rfl (Step.len (e := 22) (z := 1) (d := (.bss a)) rfl rfl (lt_ok rfl) (by kernel_rfl) rfl rfl) ?_
   refine TL.cons rfl (Step.bin rfl rfl (lt_ok rfl) rfl rfl (Bin.lss (k := .i64) (a := (i : Int)) (b := (a.length : Int)))) ?_
   refine TL.nil ?_
   refine T.cond (b := decide ((i : Int) < (a.length : Int))) rfl (fun h2 => ?_) (fun h2 => ?_)
   ·
    replace h2 := of_decide_eq_true h2
    refine T.skip ?_
    refine T.seq ?_
    refine T.block ?_
    refine T.seq ?_
    refine T.draw [⟨17, (.one (.d (.bss a))), []⟩, ⟨18, (.one (.d (.int .i64 (i : Int)))), []⟩, ⟨19, (.one (.eptr (.bss a) i 0)), []⟩, ⟨20, (.one (.d (.ints .u8 (a.getD i [])))), []⟩, ⟨21, (.one (.d (.bss b))), []⟩, ⟨22, (.one (.d (.int .i64 (i : Int)))), []⟩, ⟨23, (.one (.eptr (.bss b) i 0)), []⟩, ⟨24, (.one (.d (.ints .u8 (b.getD i [])))), []⟩, ⟨25, (.one (.d (.bool (decide ((a.getD i []) = (b.getD i [])))))), []⟩, ⟨26, (.one (.d (.bool (!(decide ((a.getD i []) = (b.getD i []))))))), []⟩] (by kernel_rfl) (by kernel_rfl) ?_ ?_
    ·
     refine .cons (fun E h => by have g0 := h.get 0 (by decide); exact OpStep.plain rfl (Step.move (p := (.one (.d (.bss a)))) (t := 17) rfl rfl (by exact lt_ok rfl) (show Env.ev E (.tmp 0) = _ from g0.trans rfl))) ?_
     refine .cons (fun E h => by have g5 := h.get 5 (by decide); exact OpStep.plain rfl (Step.move (p := (.one (.d (.int .i64 (i : Int))))) (t := 18) rfl rfl (by exact lt_ok rfl) (show Env.ev E (.tmp 5) = _ from g5.trans rfl))) ?_
     refine .cons (fun E h => by have g17 := h.get 17 (by decide); have g18 := h.get 18 (by decide); exact OpStep.plain rfl (Step.index (e := 22) (z := 1) (i := (i : Int)) (t := 19) rfl rfl (by exact lt_ok rfl) (by kernel_rfl) (show Env.ev E (.tmp 17) = _ from g17.trans rfl) rfl rfl (lt_ok rfl) (show Env.ev E (.tmp 18) = _ from g18.trans rfl) (by first | omega | (simp; omega)) (by simp only [D.size]; first | omega | (simp; omega)))) ?_
     refine .cons (fun E h => by have g19 := h.get 19 (by decide); exact OpStep.plain rfl (Step.load (e := (.ints .u8 (a.getD i []))) (t := 20) rfl rfl (by exact lt_ok rfl) (by kernel_rfl) (show Env.ev E (.tmp 19) = _ from g19.trans rfl) rfl)) ?_
     refine .cons (fun E h => by have g1 := h.get 1 (by decide); exact OpStep.plain rfl (Step.move (p := (.one (.d (.bss b)))) (t := 21) rfl rfl (by exact lt_ok rfl) (show Env.ev E (.tmp 1) = _ from g1.trans rfl))) ?_
     refine .cons (fun E h => by have g5 := h.get 5 (by decide); exact OpStep.plain rfl (Step.move (p := (.one (.d (.int .i64 (i : Int))))) (t := 22) rfl rfl (by exact lt_ok rfl) (show Env.ev E (.tmp 5) = _ from g5.trans rfl))) ?_
     refine .cons (fun E h => by have g21 := h.get 21 (by decide); have g22 := h.get 22 (by decide); exact OpStep.plain rfl (Step.index (e := 22) (z := 1) (i := (i : Int)) (t := 23) rfl rfl (by exact lt_ok rfl) (by kernel_rfl) (show Env.ev E (.tmp 21) = _ from g21.trans rfl) rfl rfl (lt_ok rfl) (show Env.ev E (.tmp 22) = _ from g22.trans rfl) (by first | omega | (simp; omega)) (by simp only [D.size]; first | omega | (simp; omega)))) ?_
     refine .cons (fun E h => by have g23 := h.get 23 (by decide); exact OpStep.plain rfl (Step.load (e := (.ints .u8 (b.getD i []))) (t := 24) rfl rfl (by exact lt_ok rfl) (by kernel_rfl) (show Env.ev E (.tmp 23) = _ from g23.trans rfl) rfl)) ?_
     refine .cons (fun E h => by have g20 := h.get 20 (by decide); have g24 := h.get 24 (by decide); exact OpStep.plain rfl (Step.call (f := 29) (xs := [.tmp 20, .tmp 24]) (ps := [(.one (.d (.ints .u8 (a.getD i [])))), (.one (.d (.ints .u8 (b.getD i []))))]) false (g := .func 29) (t := 25) rfl rfl (by exact lt_ok rfl) rfl (by kernel_rfl) (evs_cons (show Env.ev E (.tmp 20) = _ from g20.trans rfl) (evs_cons (show Env.ev E (.tmp 24) = _ from g24.trans rfl) (rfl))) (.cons (.one (.d _)) (.cons (.one (.d _)) .nil)) (ok_laws_eqByteS (a.getD i []) (b.getD i [])) (.inr rfl) (At.freshRows h rfl) (by simp) rfl)) ?_
     refine .cons (fun E h => by have g25 := h.get 25 (by decide); exact OpStep.plain rfl (Step.not (b := (decide ((a.getD i []) = (b.getD i [])))) (t := 26) rfl rfl (by exact lt_ok rfl) (show Env.ev E (.tmp 25) = _ from g25.trans rfl))) ?_
     exact .nil _ _
    refine TL.nil ?_
    refine T.cond (b := !(decide ((a.getD i []) = (b.getD i [])))) rfl (fun h3 => ?_) (fun h3 => ?_)
    ·
     replace h3 : (decide ((a.getD i []) = (b.getD i []))) = false := by simpa only [Bool.not_eq_true', Bool.not_eq_false'] using h3
     replace h3 := of_decide_eq_false h3
     refine T.seq ?_
     refine T.region ?_
     refine TL.cons rfl (Step.assign (p := (.one (.d (.bool false)))) rfl rfl (lt_ok rfl) rfl) ?_
     refine TL.nil ?_
     refine T.ret ?_
     exact ⟨[(false, [.d (.bool false)])], (.cons rfl .nil), rfl, [], (RetC.rd' (by (congr 1; symm; first | (apply decide_eq_false; rintro rfl; first | exact absurd rfl ‹¬ _ = _› | exact absurd rfl (of_decide_eq_false (by assumption)) | contradiction | simp_all) | (apply decide_eq_true; exact take_all hx2 (by omega) hx3))) .nil)⟩
    ·
     replace h3 : (decide ((a.getD i []) = (b.getD i []))) = true := by simpa only [Bool.not_eq_true', Bool.not_eq_false'] using h3
     replace h3 := of_decide_eq_true h3
     refine T.skip ?_
     refine T.region ?_
     refine TL.cons rfl (Step.move (p := (.one (.d (.int .i64 (i : Int))))) rfl rfl (lt_ok rfl) rfl) ?_
     refine TL.cons rfl (Step.bin (r := .int .i64 ((i : Int) + 1)) rfl rfl (lt_ok rfl) rfl rfl (Bin.add (a := (i : Int)) (b := 1) (by first | exact wrap_ok (by first | omega | (simp; omega)) (by first | omega | (simp; omega)) | rfl))) ?_
     refine TL.cons rfl (Step.assign (p := (.one (.d (.int .i64 ((i : Int) + 1))))) rfl rfl (lt_ok rfl) rfl) ?_
     refine TL.nil ?_
     exact ⟨i + 1, by (refine ⟨by omega, hx2, take_step (d := []) hx2 (by omega) hx3 (by first | assumption | exact Decidable.not_not.1 (by assumption) | omega)⟩), by omega, Env.le_mk ⟨rfl, rfl, by first | rfl | (simp; done) | (congr 3; omega), trivial⟩ trivial trivial⟩
   ·
    replace h2 := of_decide_eq_false h2
    refine T.exit ?_
    refine T.seq ?_
    refine T.region ?_
    refine TL.cons rfl (Step.assign (p := (.one (.d (.bool true)))) rfl rfl (lt_ok rfl) rfl) ?_
    refine TL.nil ?_
    refine T.ret ?_
    exact ⟨[(false, [.d (.bool true)])], (.cons rfl .nil), rfl, [], (RetC.rd' (by (congr 1; symm; first | (apply decide_eq_false; rintro rfl; first | exact absurd rfl ‹¬ _ = _› | exact absurd rfl (of_decide_eq_false (by assumption)) | contradiction | simp_all) | (apply decide_eq_true; exact take_all hx2 (by omega) hx3))) .nil)⟩
theorem ok_laws_eqIncl (a : SIncl) (b : SIncl) : RO Try.prog 57 [.agg a.cells, .agg b.cells] [(false, [.rd (.bool (decide (a = b)))])] := by
 refine RO.intro Try.func57 rfl 32 rfl (le_ok rfl) fun w Z => ?_
 refine T.seq ?_
 refine T.region ?_
 refine TL.cons rfl (Step.box (p := (.agg [.d (.int .i64 a.f0), .d (.int .i64 a.f1), .d (.int .i64 a.f2), .d (.ints .u8 a.f3), .d (.bss a.f4)])) (ps := [.d (.int .i64 a.f0), .d (.int .i64 a.f1), .d (.int .i64 a.f2), .d (.ints .u8 a.f3), .d (.bss a.f4)]) rfl rfl (lt_ok rfl) rfl rfl rfl rfl rfl) ?_
 refine TL.cons rfl (Step.box (p := (.agg [.d (.int .i64 b.f0), .d (.int .i64 b.f1), .d (.int .i64 b.f2), .d (.ints .u8 b.f3), .d (.bss b.f4)])) (ps := [.d (.int .i64 b.f0), .d (.int .i64 b.f1), .d (.int .i64 b.f2), .d (.ints .u8 b.f3), .d (.bss b.f4)]) rfl rfl (lt_ok rfl) rfl rfl rfl rfl rfl) ?_
 refine TL.cons rfl (Step.assign (p := (.one (.d (.bool false)))) rfl rfl (lt_ok rfl) rfl) ?_
 refine TL.nil ?_
 refine T.seq ?_
 refine T.seq ?_
 refine T.region ?_
 refine TL.cons rfl (Step.fieldAddr (q := 0) (off := 0) (n := 1) (one := true) rfl rfl (lt_ok rfl) (by kernel_rfl) (Nat.succ_ne_zero _) rfl) ?_
 refine TL.cons rfl (Step.load_box (c := .d (.int .i64 a.f0)) rfl rfl (lt_ok rfl) (by kernel_rfl) rfl rfl rfl) ?_
 refine TL.cons rfl (Step.fieldAddr (q := 0) (off := 0) (n := 1) (one := true) rfl rfl (lt_ok rfl) (by kernel_rfl) (Nat.succ_ne_zero _) rfl) ?_
 refine TL.cons rfl (Step.load_box (c := .d (.int .i64 b.f0)) rfl rfl (lt_ok rfl) (by kernel_rfl) rfl rfl rfl) ?_
 refine TL.cons rfl (Step.bin rfl rfl (lt_ok rfl) rfl rfl (Bin.neq (k := .i64) (a := a.f0) (b := b.f0))) ?_
 refine TL.nil ?_
 refine T.cond (b := decide (a.f0 ≠ b.f0)) rfl (fun h1 => ?_) (fun h1 => ?_)
 ·
  replace h1 := of_decide_eq_true h1
  refine T.seq ?_
  refine T.region ?_
  refine TL.cons rfl (Step.assign (p := (.one (.d (.bool false)))) rfl rfl (lt_ok rfl) rfl) ?_
  refine TL.nil ?_
  refine T.ret ?_
  exact ⟨[(false, [.d (.bool false)])], (.cons rfl .nil), rfl, [], (RetC.rd' (by (congr 1; symm; first | (apply decide_eq_false; rintro rfl; first | exact absurd rfl ‹¬ _ = _› | contradiction) | (apply decide_eq_true; apply SIncl.ext <;> first | assumption | exact Decidable.not_not.1 (by assumption)))) .nil)⟩
 ·
  replace h1 := of_decide_eq_false h1
  refine T.skip ?_
  refine T.seq ?_
  refine T.seq ?_
  refine T.region ?_
  refine TL.cons rfl (Step.fieldAddr (q := 0) (off := 1) (n := 1) (one := true) rfl rfl (lt_ok rfl) (by kernel_rfl) (Nat.succ_ne_zero _) rfl) ?_
  refine TL.cons rfl (Step.load_box (c := .d (.int .i64 a.f1)) rfl rfl (lt_ok rfl) (by kernel_rfl) rfl rfl rfl) ?_
  refine TL.cons rfl (Step.fieldAddr (q := 0) (off := 1) (n := 1) (one := true) rfl rfl (lt_ok rfl) (by kernel_rfl) (Nat.succ_ne_zero _) rfl) ?_
  refine TL.cons rfl (Step.load_box (c := .d (.int .i64 b.f1)) rfl rfl (lt_ok rfl) (by kernel_rfl) rfl rfl rfl) ?_
  refine TL.cons rfl (Step.bin rfl rfl (lt_ok rfl) rfl rfl (Bin.neq (k := .i64) (a := a.f1) (b := b.f1))) ?_
  refine TL.nil ?_
  refine T.cond (b := decide (a.f1 ≠ b.f1)) rfl (fun h2 => ?_) (fun h2 => ?_)
  ·
   replace h2 := of_decide_eq_true h2
   refine T.seq ?_
   refine T.region ?_
   refine TL.cons rfl (Step.assign (p := (.one (.d (.bool false)))) rfl rfl (lt_ok rfl) rfl) ?_
   refine TL.nil ?_
   refine T.ret ?_
   exact ⟨[(false, [.d (.bool false)])], (.cons rfl .nil), rfl, [], (RetC.rd' (by (congr 1; symm; first | (apply decide_eq_false; rintro rfl; first | exact absurd rfl ‹¬ _ = _› | contradiction) | (apply decide_eq_true; apply SIncl.ext <;> first | assumption | exact Decidable.not_not.1 (by assumption)))) .nil)⟩
  ·
   replace h2 := of_decide_eq_false h2
   refine T.skip ?_
   refine T.seq ?_
   refine T.seq ?_
   refine T.region ?_
   refine TL.cons rfl (Step.fieldAddr (q := 0) (off := 2) (n := 1) (one := true) rfl rfl (lt_ok rfl) (by kernel_rfl) (Nat.succ_ne_zero _) rfl) ?_
   refine TL.cons rfl (Step.load_box (c := .d (.int .i64 a.f2)) rfl rfl (lt_ok rfl) (by kernel_rfl) rfl rfl rfl) ?_
   refine TL.cons rfl (Step.fieldAddr (q := 0) (off := 2) (n := 1) (one := true) rfl rfl (lt_ok rfl) (by kernel_rfl) (Nat.succ_ne_zero _) rfl) ?_
   refine TL.cons rfl (Step.load_box (c := .d (.int .i64 b.f2)) rfl rfl (lt_ok rfl) (by kernel_rfl) rfl rfl rfl) ?_
   refine TL.cons rfl (Step.bin rfl rfl (lt_ok rfl) rfl rfl (Bin.neq (k := .i64) (a := a.f2) (b := b.f2))) ?_
   refine TL.nil ?_
   refine T.cond (b := decide (a.f2 ≠ b.f2)) rfl (fun h3 => ?_) (fun h3 => ?_)
   ·
    replace h3 := of_decide_eq_true h3
    refine T.seq ?_
    refine T.region ?_
    refine TL.cons rfl (Step.assign (p := (.one (.d (.bool false)))) rfl rfl (lt_ok rfl) rfl) ?_
    refine TL.nil ?_
    refine T.ret ?_
    exact ⟨[(false, [.d (.bool false)])], (.cons rfl .nil), rfl, [], (RetC.rd' (by (congr 1; symm; first | (apply decide_eq_false; rintro rfl; first | exact absurd rfl ‹¬ _ = _› | contradiction) | (apply decide_eq_true; apply SIncl.ext <;> first | assumption | exact Decidable.not_not.1 (by assumption)))) .nil)⟩
   ·
    replace h3 := of_decide_eq_false h3
    refine T.skip ?_
    refine T.seq ?_
    refine T.seq ?_
    refine T.region ?_
    refine TL.cons rfl (Step.fieldAddr (q := 0) (off := 3) (n := 1) (one := true) rfl rfl (lt_ok rfl) (by kernel_rfl) (Nat.succ_ne_zero _) rfl) ?_
    refine TL.cons rfl (Step.load_box (c := .d (.ints .u8 a.f3)) rfl rfl (lt_ok rfl) (by kernel_rfl) rfl rfl rfl) ?_
    refine TL.cons rfl (Step.fieldAddr (q := 0) (off := 3) (n := 1) (one := true) rfl rfl (lt_ok rfl) (by kernel_rfl) (Nat.succ_ne_zero _) rfl) ?_
    refine TL.cons rfl (Step.load_box (c := .d (.ints .u8 b.f3)) rfl rfl (lt_ok rfl) (by kernel_rfl) rfl rfl rfl) ?_
    refine TL.cons rfl (Step.call (f := 29) (xs := [.tmp 21, .tmp 23]) (ps := [(.one (.d (.ints .u8 a.f3))), (.one (.d (.ints .u8 b.f3)))]) false (g := .func 29) rfl rfl (lt_ok rfl) rfl (by kernel_rfl) rfl (.cons (.one (.d _)) (.cons (.one (.d _)) .nil)) (ok_laws_eqByteS a.f3 b.f3) (.inr rfl) rfl (by simp) rfl) ?_
    refine TL.cons rfl (Step.not (b := (decide (a.f3 = b.f3))) rfl rfl (lt_ok rfl) rfl) ?_
    refine TL.nil ?_
    refine T.cond (b := !(decide (a.f3 = b.f3))) rfl (fun h4 => ?_) (fun h4 => ?_)
    ·
     replace h4 : (decide (a.f3 = b.f3)) = false := by simpa only [Bool.not_eq_true', Bool.not_eq_false'] using h4
     replace h4 := of_decide_eq_false h4
     refine T.seq ?_
     refine T.region ?_
     refine TL.cons rfl (Step.assign (p := (.one (.d (.bool false)))) rfl rfl (lt_ok rfl) rfl) ?_
     refine TL.nil ?_
     refine T.ret ?_
     exact ⟨[(false, [.d (.bool false)])], (.cons rfl .nil), rfl, [], (RetC.rd' (by (congr 1; symm; first | (apply decide_eq_false; rintro rfl; first | exact absurd rfl ‹¬ _ = _› | contradiction) | (apply decide_eq_true; apply SIncl.ext <;> first | assumption | exact Decidable.not_not.1 (by assumption)))) .nil)⟩
    ·
     replace h4 : (decide (a.f3 = b.f3)) = true := by simpa only [Bool.not_eq_true', Bool.not_eq_false'] using h4
     replace h4 := of_decide_eq_true h4
     refine T.skip ?_
     refine T.seq ?_
     refine T.seq ?_
     refine T.region ?_
     refine TL.cons rfl (Step.fieldAddr (q := 0) (off := 4) (n := 1) (one := true) rfl rfl (lt_ok rfl) (by kernel_rfl) (Nat.succ_ne_zero _) rfl) ?_
     refine TL.cons rfl (Step.load_box (c := .d (.bss a.f4)) rfl rfl (lt_ok rfl) (by kernel_rfl) rfl rfl rfl) ?_
     refine TL.cons rfl (Step.fieldAddr (q := 0) (off := 4) (n := 1) (one := true) rfl rfl (lt_ok rfl) (by kernel_rfl) (Nat.succ_ne_zero _) rfl) ?_
     refine TL.cons rfl (Step.load_box (c := .d (.bss b.f4)) rfl rfl (lt_ok rfl) (by kernel_rfl) rfl rfl rfl) ?_
     refine TL.cons rfl (Step.call (f := 84) (xs := [.tmp 27, .tmp 29]) (ps := [(.one (.d (.bss a.f4))), (.one (.d (.bss b.f4)))]) false (g := .func 84) rfl rfl (lt_ok rfl) rfl (by kernel_rfl) rfl (.cons (.one (.d _)) (.cons (.one (.d _)) .nil)) (ok_laws_eqByteSS a.f4 b.f4) (.inr rfl) rfl (by simp) rfl) ?_
     refine TL.cons rfl (Step.not (b := (decide (a.f4 = b.f4))) rfl rfl (lt_ok rfl) rfl) ?_
     refine TL.nil ?_
     refine T.cond (b := !(decide (a.f4 = b.f4))) rfl (fun h5 => ?_) (fun h5 => ?_)
     ·
      replace h5 : (decide (a.f4 = b.f4)) = false := by simpa only [Bool.not_eq_true', Bool.not_eq_false'] using h5
      replace h5 := of_decide_eq_false h5
      refine T.seq ?_
      refine T.region ?_
      refine TL.cons rfl (Step.assign (p := (.one (.d (.bool false)))) rfl rfl (lt_ok rfl) rfl) ?_
      refine TL.nil ?_
      refine T.ret ?_
      exact ⟨[(false, [.d (.bool false)])], (.cons rfl .nil), rfl, [], (RetC.rd' (by (congr 1; symm; first | (apply decide_eq_false; rintro rfl; first | exact absurd rfl ‹¬ _ = _› | contradiction) | (apply decide_eq_true; apply SIncl.ext <;> first | assumption | exact Decidable.not_not.1 (by assumption)))) .nil)⟩
     ·
      replace h5 : (decide (a.f4 = b.f4)) = true := by simpa only [Bool.not_eq_true', Bool.not_eq_false'] using h5
      replace h5 := of_decide_eq_true h5
      refine T.skip ?_
      refine T.seq ?_
      refine T.region ?_
      refine TL.cons rfl (Step.assign (p := (.one (.d (.bool true)))) rfl rfl (lt_ok rfl) rfl) ?_
      refine TL.nil ?_
      refine T.ret ?_
      exact ⟨[(false, [.d (.bool true)])], (.cons rfl .nil), rfl, [], (RetC.rd' (by (congr 1; symm; first | (apply decide_eq_false; rintro rfl; first | exact absurd rfl ‹¬ _ = _› | contradiction) | (apply decide_eq_true; apply SIncl.ext <;> first | assumption | exact Decidable.not_not.1 (by assumption)))) .nil)⟩
theorem ok_laws_markByteSS (a : List (List Int)) (k : Int) (h0_ : 0 ≤ k) (h1_ : k + cntL (fun x : List Int => (x.length : Int)) a ≤ 4611686018427387904) : MK Try.prog 85 [.one (.mk (.bss a) (.bss (mkBs a k))), .one (.rd (.int .i64 k))] [(false, [.rd (.int .i64 (k + cntL (fun x : List Int => (x.length : Int)) a))])] := by
 refine MK.intro Try.func85 rfl 19 rfl (le_ok rfl) (le_ok rfl) rfl fun w Z IX pin Ts hp => ?_
 refine T.bndRow 900 rfl fun hb_900 => ?_
 simp only [D.size, List.length_map] at hb_900
 refine T.seq ?_
 refine T.region ?_
 refine TL.cons rfl (Step.assign (p := (.one (.d (.int .i64 0)))) rfl rfl (lt_ok rfl) rfl) ?_
 refine TL.nil ?_
 refine T.seq ?_
 refine T.seq ?_
 refine T.region ?_
 refine TL.cons rfl (Step.assign (p := (.one (.d (.int .i64 0)))) rfl rfl (lt_ok rfl) rfl) ?_
 refine TL.nil ?_
 refine T.block ?_
 refine T.loop (ι := Nat) (fun xx_ => { tm := [(0, (.one (.row 900 []))), (4, (.one (.d (.int .i64 0)))), (5, (.one (.d (.int .i64 (xx_ : Int))))), (1, (.one (.d (.int .i64 (k + cntL (fun x : List Int => (x.length : Int)) (a.take xx_))))))], rows := [(900, ((Ts 0), (.bss ((upTo (fun x : List Int => (x.length : Int)) mkB a k xx_).set xx_ (a.getD xx_ [])))))], boxes := [] }) (fun xx_ => xx_ ≤ a.length) (fun xx_ => a.length - xx_) 0 ?_ ?_ ?_
 · exact Env.le_mk ⟨rfl, rfl, by first | exact congrArg (fun x => some (Ts 0, D.bss x)) (upTo_next (df := []) (by omega) rfl) | exact congrArg (fun x => some (Ts 0, D.bss x)) (upTo_first a k []) | rfl | (refine congrArg (fun n => PV.one (.d (.int .i64 n))) ?_; first | omega | (simp; done) | (simp [cntL]; done)), by first | exact congrArg (fun x => some (Ts 0, D.bss x)) (upTo_next (df := []) (by omega) rfl) | exact congrArg (fun x => some (Ts 0, D.bss x)) (upTo_first a k []) | rfl | (refine congrArg (fun n => PV.one (.d (.int .i64 n))) ?_; first | omega | (simp; done) | (simp [cntL]; done)), trivial⟩ ⟨by first | exact congrArg (fun x => some (Ts 0, D.bss x)) (upTo_next (df := []) (by omega) rfl) | exact congrArg (fun x => some (Ts 0, D.bss x)) (upTo_first a k []) | rfl | (refine congrArg (fun n => PV.one (.d (.int .i64 n))) ?_; first | omega | (simp; done) | (simp [cntL]; done)), trivial⟩ trivial
 · exact Nat.zero_le _
 ·
  intro i hx
  try dsimp only at hx ⊢
  refine T.seq ?_
  refine T.seq ?_
  refine T.region ?_
  refine TL.cons rfl (Step.move (p := (.one (.d (.int .i64 (i : Int))))) rfl rfl (lt_ok rfl) rfl) ?_
  refine TL.cons rfl (Step.move (p := (.one (.row 900 []))) rfl rfl (lt_ok rfl) rfl) ?_
  refine TL.cons rfl (Step.len' (e := 22) (z := 1) (d := (.bss ((upTo (fun x : List Int => (x.length : Int)) mkB a k i).set i (a.getD i [])))) (n := a.length) rfl rfl (lt_ok rfl) (by kernel_rfl) rfl rfl (by simp [D.size, upTo_length])) ?_
  refine TL.cons rfl (Step.bin rfl rfl (lt_ok rfl) rfl rfl (Bin.lss (k := .i64) (a := (i : Int)) (b := (a.length : Int)))) ?_
  refine TL.nil ?_
  refine T.cond (b := decide ((i : Int) < (a.length : Int))) rfl (fun h1 => ?_) (fun h1 => ?_)
  ·
   replace h1 := of_decide_eq_true h1
   have hc1 := cntL_take_le (cnt := (fun x : List Int => (x.length : Int))) (fun x => by omega) a (i + 1)
   have hc2 := cntL_take_succ (cnt := (fun x : List Int => (x.length : Int))) (i := i) [] (show i < a.length by omega)
   have hc3 := cntL_nonneg (cnt := (fun x : List Int => (x.length : Int))) (fun x => by omega) (a.take i)
   try dsimp only at hc2
   refine T.skip ?_
   refine T.seq ?_
   refine T.block ?_
   refine T.region ?_
   refine TL.cons rfl (Step.move (p := (.one (.row 900 []))) rfl rfl (lt_ok rfl) rfl) ?_
   refine TL.cons rfl (Step.move (p := (.one (.d (.int .i64 (i : Int))))) rfl rfl (lt_ok rfl) rfl) ?_
   refine TL.cons rfl (Step.index_row (d := (.bss ((upTo (fun x : List Int => (x.length : Int)) mkB a k i).set i (a.getD i [])))) (e := 22) (z := 1) (i := (i : Int)) rfl rfl (lt_ok rfl) (by kernel_rfl) rfl rfl rfl rfl (lt_ok rfl) rfl (by first | omega | (simp; omega)) (by simp only [D.at_, D.cell, D.size, List.length_set, List.length_map, upTo_length]; first | omega | (simp; omega))) ?_
   refine TL.cons rfl (Step.load_row (d := (.bss ((upTo (fun x : List Int => (x.length : Int)) mkB a k i).set i (a.getD i [])))) (c := .row 900 [(i, 0)]) rfl rfl (lt_ok rfl) (by kernel_rfl) rfl rfl (ofRow_sl (cell_set_bss (by simp only [upTo_length]; first | omega | (simp; omega))) rfl)) ?_
   refine TL.cons rfl (Step.move (p := (.one (.d (.int .i64 (k + cntL (fun x : List Int => (x.length : Int)) (a.take i)))))) rfl rfl (lt_ok rfl) rfl) ?_
   refine TL.cons rfl (Step.callM (f := 32) (xs := [.tmp 15, .tmp 16]) (ps := [(.one (.row 900 [(i, 0)])), (.one (.d (.int .i64 (k + cntL (fun x : List Int => (x.length : Int)) (a.take i)))))]) (args := [.one (.mk (.ints .u8 (a.getD i [])) (.ints .u8 (mkB (a.getD i []) (k + cntL (fun x : List Int => (x.length : Int)) (a.take i))))), .one (.rd (.int .i64 (k + cntL (fun x : List Int => (x.length : Int)) (a.take i))))]) (js := [(900, (.bss ((upTo (fun x : List Int => (x.length : Int)) mkB a k i).set i (mkB (a.getD i []) (k + cntL (fun x : List Int => (x.length : Int)) (a.take i))))))]) (x := (.int .i64 ((k + cntL (fun x : List Int => (x.length : Int)) (a.take i)) + ((a.getD i []).length : Int)))) (g := .func 32) rfl rfl (lt_ok rfl) rfl (by kernel_rfl) rfl rfl (.row (T := (Ts 0)) (d := (.bss ((upTo (fun x : List Int => (x.length : Int)) mkB a k i).set i (a.getD i [])))) (e' := (.ints .u8 (mkB (a.getD i []) (k + cntL (fun x : List Int => (x.length : Int)) (a.take i))))) (d' := (.bss ((upTo (fun x : List Int => (x.length : Int)) mkB a k i).set i (mkB (a.getD i []) (k + cntL (fun x : List Int => (x.length : Int)) (a.take i)))))) rfl (cell_set_bss (by simp only [upTo_length]; first | omega | (simp; omega))) rfl putAt_bss2 rfl (by simp [D.size]) rfl rfl (.d .nil)) (ok_laws_markByteS (a.getD i []) (k + cntL (fun x : List Int => (x.length : Int)) (a.take i)) (by omega) (by first | omega | (have := (by assumption); omega))) rfl) ?_
   refine TL.cons rfl (Step.assign (p := (.one (.d (.int .i64 ((k + cntL (fun x : List Int => (x.length : Int)) (a.take i)) + ((a.getD i []).length : Int)))))) rfl rfl (lt_ok rfl) rfl) ?_
   refine TL.nil ?_
   refine T.region ?_
   refine TL.cons rfl (Step.move (p := (.one (.d (.int .i64 (i : Int))))) rfl rfl (lt_ok rfl) rfl) ?_
   refine TL.cons rfl (Step.bin (r := .int .i64 ((i : Int) + 1)) rfl rfl (lt_ok rfl) rfl rfl (Bin.add (a := (i : Int)) (b := 1) (by first | exact wrap_ok (by first | omega | (simp; omega)) (by first | omega | (simp; omega)) | rfl))) ?_
   refine TL.cons rfl (Step.assign (p := (.one (.d (.int .i64 ((i : Int) + 1))))) rfl rfl (lt_ok rfl) rfl) ?_
   refine TL.nil ?_
   exact ⟨i + 1, by omega, by first | omega | (dsimp only; omega), Env.le_mk ⟨rfl, rfl, by first | exact congrArg (fun x => some (Ts 0, D.bss x)) (upTo_next (df := []) (by omega) rfl) | exact congrArg (fun x => some (Ts 0, D.bss x)) (upTo_first a k []) | rfl | (refine congrArg (fun n => PV.one (.d (.int .i64 n))) ?_; first | omega | (simp; done) | (simp [cntL]; done)), by first | exact congrArg (fun x => some (Ts 0, D.bss x)) (upTo_next (df := []) (by omega) rfl) | exact congrArg (fun x => some (Ts 0, D.bss x)) (upTo_first a k []) | rfl | (refine congrArg (fun n => PV.one (.d (.int .i64 n))) ?_; first | omega | (simp; done) | (simp [cntL]; done)), trivial⟩ ⟨by first | exact congrArg (fun x => some (Ts 0, D.bss x)) (upTo_next (df := []) (by omega) rfl) | exact congrArg (fun x => some (Ts 0, D.bss x)) (upTo_first a k []) | rfl | (refine congrArg (fun n => PV.one (.d (.int .i64 n))) ?_; first | omega | (simp; done) | (simp [cntL]; done)), trivial⟩ trivial⟩
  ·
   replace h1 := of_decide_eq_false h1
   refine T.exit ?_
   refine T.seq ?_
   refine T.region ?_
   refine TL.cons rfl (Step.move (p := (.one (.d (.int .i64 (k + cntL (fun x : List Int => (x.length : Int)) (a.take i)))))) rfl rfl (lt_ok rfl) rfl) ?_
   refine TL.cons rfl (Step.assign (p := (.one (.d (.int .i64 (k + cntL (fun x : List Int => (x.length : Int)) (a.take i)))))) rfl rfl (lt_ok rfl) rfl) ?_
   refine TL.nil ?_
   refine T.ret ?_
   exact ⟨⟨⟨[(false, [.d (.int .i64 (k + cntL (fun x : List Int => (x.length : Int)) (a.take i)))])], (.cons rfl .nil), rfl, [], (RetC.rd' (by (congr 1; rw [cntL_all (by omega)])) .nil)⟩, rfl⟩, (.mk' (by exact congrArg (fun x => some (Ts 0, D.bss x)) (upTo_end (by omega))) (.rd .nil'))⟩
theorem ok_laws_markIncl (a : SIncl) (k : Int) (h0_ : 0 ≤ k) (h1_ : k + a.cm ≤ 4611686018427387904) : MK Try.prog 58 [.agg [.rd (.int .i64 a.f0), .rd (.int .i64 a.f1), .rd (.int .i64 a.f2), .mk (.ints .u8 a.f3) (.ints .u8 (mkB a.f3 k)), .mk (.bss a.f4) (.bss (mkBs a.f4 (k + (a.f3.length : Int))))], .one (.rd (.int .i64 k))] [(false, [.rd (.int .i64 (k + a.cm))])] := by
 refine MK.intro Try.func58 rfl 14 rfl (le_ok rfl) (le_ok rfl) rfl fun w Z IX pin Ts hp => ?_
 have n4 := cntBs_nonneg a.f4
 simp only [SIncl.cm] at h1_
 refine T.seq ?_
 refine T.region ?_
 refine TL.cons rfl (Step.box (p := (.agg [.d (.int .i64 a.f0), .d (.int .i64 a.f1), .d (.int .i64 a.f2), .row 903 [], .row 904 []])) (ps := [.d (.int .i64 a.f0), .d (.int .i64 a.f1), .d (.int .i64 a.f2), .row 903 [], .row 904 []]) rfl rfl (lt_ok rfl) rfl rfl rfl rfl rfl) ?_
 refine TL.cons rfl (Step.assign (p := (.one (.d (.int .i64 0)))) rfl rfl (lt_ok rfl) rfl) ?_
 refine TL.nil ?_
 refine T.seq ?_
 refine T.region ?_
 refine TL.cons rfl (Step.fieldAddr (q := 0) (off := 3) (n := 1) (one := true) rfl rfl (lt_ok rfl) (by kernel_rfl) (Nat.succ_ne_zero _) rfl) ?_
 refine TL.cons rfl (Step.load_box (c := .row 903 []) rfl rfl (lt_ok rfl) (by kernel_rfl) rfl rfl rfl) ?_
 refine TL.cons rfl (Step.move (p := (.one (.d (.int .i64 k)))) rfl rfl (lt_ok rfl) rfl) ?_
 refine TL.cons rfl (Step.callM (f := 32) (xs := [.tmp 6, .tmp 7]) (ps := [(.one (.row 903 [])), (.one (.d (.int .i64 k)))]) (args := [.one (.mk (.ints .u8 a.f3) (.ints .u8 (mkB a.f3 k))), .one (.rd (.int .i64 k))]) (js := [(903, (.ints .u8 (mkB a.f3 k)))]) (x := (.int .i64 (k + (a.f3.length : Int)))) (g := .func 32) rfl rfl (lt_ok rfl) rfl (by kernel_rfl) rfl rfl (.row (T := (Ts 3)) (d := (.ints .u8 a.f3)) (e' := (.ints .u8 (mkB a.f3 k))) (d' := (.ints .u8 (mkB a.f3 k))) rfl rfl rfl rfl rfl (by simp [D.size, mkL_length]) rfl rfl (.d .nil)) (ok_laws_markByteS a.f3 k (by omega) (by first | omega | (have := (by assumption); omega))) rfl) ?_
 refine TL.cons rfl (Step.assign (p := (.one (.d (.int .i64 (k + (a.f3.length : Int)))))) rfl rfl (lt_ok rfl) rfl) ?_
 refine TL.nil ?_
 refine T.seq ?_
 refine T.region ?_
 refine TL.cons rfl (Step.fieldAddr (q := 0) (off := 4) (n := 1) (one := true) rfl rfl (lt_ok rfl) (by kernel_rfl) (Nat.succ_ne_zero _) rfl) ?_
 refine TL.cons rfl (Step.load_box (c := .row 904 []) rfl rfl (lt_ok rfl) (by kernel_rfl) rfl rfl rfl) ?_
 refine TL.cons rfl (Step.move (p := (.one (.d (.int .i64 (k + (a.f3.length : Int)))))) rfl rfl (lt_ok rfl) rfl) ?_
 have nn1 := cntBs_nonneg a.f4
 refine TL.cons rfl (Step.callM (f := 85) (xs := [.tmp 10, .tmp 11]) (ps := [(.one (.row 904 [])), (.one (.d (.int .i64 (k + (a.f3.length : Int)))))]) (args := [.one (.mk (.bss a.f4) (.bss (mkBs a.f4 (k + (a.f3.length : Int))))), .one (.rd (.int .i64 (k + (a.f3.length : Int))))]) (js := [(904, (.bss (mkBs a.f4 (k + (a.f3.length : Int)))))]) (x := (.int .i64 ((k + (a.f3.length : Int)) + cntL (fun x : List Int => (x.length : Int)) a.f4))) (g := .func 85) rfl rfl (lt_ok rfl) rfl (by kernel_rfl) rfl rfl (.row (T := (Ts 4)) (d := (.bss a.f4)) (e' := (.bss (mkBs a.f4 (k + (a.f3.length : Int))))) (d' := (.bss (mkBs a.f4 (k + (a.f3.length : Int))))) rfl rfl rfl rfl rfl (by simp [D.size, mkL_length]) rfl rfl (.d .nil)) (ok_laws_markByteSS a.f4 (k + (a.f3.length : Int)) (by omega) (by first | omega | (have := cntBs_le (xs := a.f4) (by assumption); omega))) rfl) ?_
 refine TL.cons rfl (Step.assign (p := (.one (.d (.int .i64 ((k + (a.f3.length : Int)) + cntL (fun x : List Int => (x.length : Int)) a.f4))))) rfl rfl (lt_ok rfl) rfl) ?_
 refine TL.nil ?_
 refine T.seq ?_
 refine T.region ?_
 refine TL.cons rfl (Step.move (p := (.one (.d (.int .i64 ((k + (a.f3.length : Int)) + cntL (fun x : List Int => (x.length : Int)) a.f4))))) rfl rfl (lt_ok rfl) rfl) ?_
 refine TL.cons rfl (Step.assign (p := (.one (.d (.int .i64 ((k + (a.f3.length : Int)) + cntL (fun x : List Int => (x.length : Int)) a.f4))))) rfl rfl (lt_ok rfl) rfl) ?_
 refine TL.nil ?_
 refine T.ret ?_
 exact ⟨⟨⟨[(false, [.d (.int .i64 ((k + (a.f3.length : Int)) + cntL (fun x : List Int => (x.length : Int)) a.f4))])], (.cons rfl .nil), rfl, [], (RetC.rd' (by first | rfl | (congr 1; simp only [SIncl.cm]; omega)) .nil)⟩, rfl⟩, (.rd (.rd (.rd (.mk' (by rfl) (.mk' (by rfl) (.rd .nil'))))))⟩
theorem ok_laws_FnExactPutIncl (aL : SLimits) (aB : List Int) (aX : SIncl) (h0_ : aL.ok) (h1_ : U8s aB) (h2_ : aX.ok) : RO Try.prog 9 [.agg aL.cells, .one (.ints .u8 aB), .agg aX.cells] [(false, [.rd (.bool true)])] := by
 refine RO.intro Try.func9 rfl 125 rfl (le_ok rfl) fun w Z => ?_
 refine T.bnd 1 0 rfl rfl fun hb_1_0 => ?_
 simp only [D.size, List.length_map] at hb_1_0
 refine T.seq ?_
 refine T.region ?_
 refine TL.cons rfl (Step.box (p := (.agg [.d (.int .i64 aL.f0), .d (.int .i64 aL.f1), .d (.int .i64 aL.f2), .d (.int .i64 aL.f3), .d (.int .i64 aL.f4)])) (ps := [.d (.int .i64 aL.f0), .d (.int .i64 aL.f1), .d (.int .i64 aL.f2), .d (.int .i64 aL.f3), .d (.int .i64 aL.f4)]) rfl rfl (lt_ok rfl) rfl rfl rfl rfl rfl) ?_
 refine TL.cons rfl (Step.box (p := (.agg [.d (.int .i64 aX.f0), .d (.int .i64 aX.f1), .d (.int .i64 aX.f2), .d (.ints .u8 aX.f3), .d (.bss aX.f4)])) (ps := [.d (.int .i64 aX.f0), .d (.int .i64 aX.f1), .d (.int .i64 aX.f2), .d (.ints .u8 aX.f3), .d (.bss aX.f4)]) rfl rfl (lt_ok rfl) rfl rfl rfl rfl rfl) ?_
 refine TL.cons rfl (Step.assign (p := (.one (.d (.bool false)))) rfl rfl (lt_ok rfl) rfl) ?_
 refine TL.nil ?_
 refine T.seq ?_
 refine T.seq ?_
 refine T.region ?_
 refine TL.cons rfl (Step.move (p := (.one (.d (.ints .u8 aB)))) rfl rfl (lt_ok rfl) rfl) ?_
 refine TL.cons rfl (Step.len (e := 5) (z := 1) (d := (.ints .u8 aB)) rfl rfl (lt_ok rfl) (by kernel_rfl) rfl rfl) ?_
 refine TL.cons rfl (Step.bin rfl rfl (lt_ok rfl) rfl rfl (Bin.gtr (k := .i64) (a := (aB.length : Int)) (b := 1048576))) ?_
 refine TL.nil ?_
 refine T.cond (b := decide (1048576 < (aB.length : Int))) rfl (fun h1 => ?_) (fun h1 => ?_)
 ·
  replace h1 := of_decide_eq_true h1
  refine T.seq ?_
  refine T.region ?_
  refine TL.cons rfl (Step.assign (p := (.one (.d (.bool true)))) rfl rfl (lt_ok rfl) rfl) ?_
  refine TL.nil ?_
  refine T.ret ?_
  exact ⟨[(false, [.d (.bool true)])], (.cons rfl .nil), rfl, [], (RetC.rd' (by rfl) .nil)⟩
 ·
  replace h1 := of_decide_eq_false h1
  refine T.skip ?_
  refine T.seq ?_
  refine T.region ?_
  refine TL.cons rfl (Step.assign (p := (.one (.d (.int .i64 1048576)))) rfl rfl (lt_ok rfl) rfl) ?_
  refine TL.nil ?_
  refine T.seq ?_
  refine T.region ?_
  refine TL.cons rfl (Step.load_box_agg (n := 5) (qs := [.d (.int .i64 aX.f0), .d (.int .i64 aX.f1), .d (.int .i64 aX.f2), .d (.ints .u8 aX.f3), .d (.bss aX.f4)]) rfl rfl (lt_ok rfl) (by kernel_rfl) rfl rfl rfl rfl) ?_
  refine TL.cons rfl (Step.move (p := (.one (.d (.int .i64 1048576)))) rfl rfl (lt_ok rfl) rfl) ?_
  refine TL.cons rfl (Step.call (f := 53) (xs := [.tmp 22, .tmp 23]) (ps := [(.agg [.d (.int .i64 aX.f0), .d (.int .i64 aX.f1), .d (.int .i64 aX.f2), .d (.ints .u8 aX.f3), .d (.bss aX.f4)]), (.one (.d (.int .i64 1048576)))]) false (g := .func 53) rfl rfl (lt_ok rfl) rfl (by kernel_rfl) rfl (.cons (.agg (.cons (.d _) (.cons (.d _) (.cons (.d _) (.cons (.d _) (.cons (.d _) .nil)))))) (.cons (.one (.d _)) .nil)) (ok_laws_szIncl aX 1048576 (by omega) (by omega)) (.inr rfl) rfl (by simp) rfl) ?_
  refine TL.cons rfl (Step.assign (p := (.one (.d (.int .i64 (aX.sz 1048576))))) rfl rfl (lt_ok rfl) rfl) ?_
  refine TL.nil ?_
  refine T.seq ?_
  refine T.seq ?_
  refine T.region ?_
  refine TL.cons rfl (Step.move (p := (.one (.d (.int .i64 (aX.sz 1048576))))) rfl rfl (lt_ok rfl) rfl) ?_
  refine TL.cons rfl (Step.bin rfl rfl (lt_ok rfl) rfl rfl (Bin.lss (k := .i64) (a := (aX.sz 1048576)) (b := 0))) ?_
  refine TL.nil ?_
  refine T.cond (b := decide ((aX.sz 1048576) < 0)) rfl (fun h3 => ?_) (fun h3 => ?_)
  ·
   replace h3 := of_decide_eq_true h3
   refine T.seq ?_
   refine T.region ?_
   refine TL.cons rfl (Step.assign (p := (.one (.d (.bool true)))) rfl rfl (lt_ok rfl) rfl) ?_
   refine TL.nil ?_
   refine T.ret ?_
   exact ⟨[(false, [.d (.bool true)])], (.cons rfl .nil), rfl, [], (RetC.rd' (by rfl) .nil)⟩
  ·
   replace h3 := of_decide_eq_false h3
   have z2_le : aX.sz 1048576 ≤ 1048576 := SIncl.sz_le _ (by omega)
   have z2_sm := SIncl.sz_sm _ (by omega : (0 : Int) ≤ 1048576) (by omega : (1048576 : Int) ≤ 1048576) (by omega : (0 : Int) ≤ aX.sz 1048576)
   refine T.skip ?_
   refine T.seq ?_
   have nn4 := @putIncl_len aL aB aX (by assumption)
   refine T.draw [⟨28, (.agg [.d (.int .i64 aL.f0), .d (.int .i64 aL.f1), .d (.int .i64 aL.f2), .d (.int .i64 aL.f3), .d (.int .i64 aL.f4)]), []⟩, ⟨29, (.agg [.d (.int .i64 aL.f0), .d (.int .i64 aL.f1), .d (.int .i64 aL.f2), .d (.int .i64 aL.f3), .d (.int .i64 aL.f4)]), []⟩, ⟨30, (.one (.d (.ints .u8 aB))), []⟩, ⟨31, (.one (.row 1031 [])), [(1031, (5, (.ints .u8 aB)))]⟩, ⟨32, (.agg [.d (.int .i64 aX.f0), .d (.int .i64 aX.f1), .d (.int .i64 aX.f2), .d (.ints .u8 aX.f3), .d (.bss aX.f4)]), []⟩, ⟨33, (.agg [.d (.int .i64 aX.f0), .d (.int .i64 aX.f1), .d (.int .i64 aX.f2), .row 4033 [], .row 5033 []]), [(5033, (22, (.bss aX.f4))), (4033, (5, (.ints .u8 aX.f3)))]⟩, ⟨34, (.tup [(false, [.row 1034 []]), (false, [.d (.bool (inclOk aL aX))])]), [(1034, (5, (.ints .u8 (putIncl aL aB aX))))]⟩, ⟨27, (.tup [(false, [.row 1034 []]), (false, [.d (.bool (inclOk aL aX))])]), []⟩, ⟨35, (.one (.row 1034 [])), []⟩, ⟨36, (.one (.d (.bool (inclOk aL aX)))), []⟩, ⟨8, (.one (.row 1034 [])), []⟩, ⟨9, (.one (.d (.bool (inclOk aL aX)))), []⟩] (by kernel_rfl) (by kernel_rfl) ?_ ?_
   ·
    refine .cons (fun E h => by have g3 := h.get 3 (by decide); exact OpStep.plain rfl (Step.load_box_agg (n := 5) (qs := [.d (.int .i64 aL.f0), .d (.int .i64 aL.f1), .d (.int .i64 aL.f2), .d (.int .i64 aL.f3), .d (.int .i64 aL.f4)]) (t := 28) rfl rfl (by exact lt_ok rfl) (by kernel_rfl) (show Env.ev E (.tmp 3) = _ from g3.trans rfl) (by exact h.box rfl) rfl rfl)) ?_
    refine .cons (fun E h => by have g28 := h.get 28 (by decide); exact OpStep.plain rfl (Step.call (f := 26) (xs := [.tmp 28]) (ps := [(.agg [.d (.int .i64 aL.f0), .d (.int .i64 aL.f1), .d (.int .i64 aL.f2), .d (.int .i64 aL.f3), .d (.int .i64 aL.f4)])]) false (g := .func 26) (t := 29) rfl rfl (by exact lt_ok rfl) rfl (by kernel_rfl) (evs_cons (show Env.ev E (.tmp 28) = _ from g28.trans rfl) (rfl)) (.cons (.agg (.cons (.d _) (.cons (.d _) (.cons (.d _) (.cons (.d _) (.cons (.d _) .nil)))))) .nil) (ok_laws_toLimits aL) (.inr rfl) (At.freshRows h rfl) (by simp) rfl)) ?_
    refine .cons (fun E h => by have g1 := h.get 1 (by decide); exact OpStep.plain rfl (Step.move (p := (.one (.d (.ints .u8 aB)))) (t := 30) rfl rfl (by exact lt_ok rfl) (show Env.ev E (.tmp 1) = _ from g1.trans rfl))) ?_
    refine .cons (fun E h => by have g30 := h.get 30 (by decide); exact OpStep.plain rfl (Step.call (f := 49) (xs := [.tmp 30]) (ps := [(.one (.d (.ints .u8 aB)))]) false (g := .func 49) (t := 31) rfl rfl (by exact lt_ok rfl) rfl (by kernel_rfl) (evs_cons (show Env.ev E (.tmp 30) = _ from g30.trans rfl) (rfl)) (.cons (.one (.d _)) .nil) (ok_laws_toByteS aB (by first | omega | assumption | exact mem_getD h0_.2 (by omega))) (.inr rfl) (At.freshRows h rfl) (by simp) rfl)) ?_
    refine .cons (fun E h => by have g5 := h.get 5 (by decide); exact OpStep.plain rfl (Step.load_box_agg (n := 5) (qs := [.d (.int .i64 aX.f0), .d (.int .i64 aX.f1), .d (.int .i64 aX.f2), .d (.ints .u8 aX.f3), .d (.bss aX.f4)]) (t := 32) rfl rfl (by exact lt_ok rfl) (by kernel_rfl) (show Env.ev E (.tmp 5) = _ from g5.trans rfl) (by exact h.box rfl) rfl rfl)) ?_
    refine .cons (fun E h => by have g32 := h.get 32 (by decide); exact OpStep.plain rfl (Step.call (f := 55) (xs := [.tmp 32]) (ps := [(.agg [.d (.int .i64 aX.f0), .d (.int .i64 aX.f1), .d (.int .i64 aX.f2), .d (.ints .u8 aX.f3), .d (.bss aX.f4)])]) false (g := .func 55) (t := 33) rfl rfl (by exact lt_ok rfl) rfl (by kernel_rfl) (evs_cons (show Env.ev E (.tmp 32) = _ from g32.trans rfl) (rfl)) (.cons (.agg (.cons (.d _) (.cons (.d _) (.cons (.d _) (.cons (.d _) (.cons (.d _) .nil)))))) .nil) (ok_laws_toIncl aX (by first | assumption | exact ⟨‹_›, ‹_›⟩ | (refine mem_getD (p := SIncl.sm) h0_.2 (by omega)) | exact mem_getD h0_.2 (by omega))) (.inr rfl) (At.freshRows h rfl) (by simp) rfl)) ?_
    refine .cons (fun E h => by have g29 := h.get 29 (by decide); have g31 := h.get 31 (by decide); have g33 := h.get 33 (by decide); exact OpStep.plain rfl (Step.call (f := 54) (xs := [.tmp 29, .tmp 31, .tmp 33]) (ps := [(.agg [.d (.int .i64 aL.f0), .d (.int .i64 aL.f1), .d (.int .i64 aL.f2), .d (.int .i64 aL.f3), .d (.int .i64 aL.f4)]), (.one (.row 1031 [])), (.agg [.d (.int .i64 aX.f0), .d (.int .i64 aX.f1), .d (.int .i64 aX.f2), .row 4033 [], .row 5033 []])]) false (g := .func 54) (t := 34) rfl rfl (by exact lt_ok rfl) rfl (by kernel_rfl) (evs_cons (show Env.ev E (.tmp 29) = _ from g29.trans rfl) (evs_cons (show Env.ev E (.tmp 31) = _ from g31.trans rfl) (evs_cons (show Env.ev E (.tmp 33) = _ from g33.trans rfl) (rfl)))) (.cons (.agg (.cons (.d _) (.cons (.d _) (.cons (.d _) (.cons (.d _) (.cons (.d _) .nil)))))) (.cons (.one (.row rfl (by exact (h.row 1031 (by kernel_rfl)).trans rfl) rfl rfl)) (.cons (.agg (.cons (.d _) (.cons (.d _) (.cons (.d _) (.cons (.row rfl (by exact (h.row 4033 (by kernel_rfl)).trans rfl) rfl rfl) (.cons (.row rfl (by exact (h.row 5033 (by kernel_rfl)).trans rfl) rfl rfl) .nil)))))) .nil))) (ok_spec_PutIncl aL aB aX (by first | omega | assumption | (simp only [List.length_append] at *; omega)) (by assumption)) (.inr rfl) (At.freshRows h rfl) (by simp) rfl)) ?_
    refine .cons (fun E h => by have g34 := h.get 34 (by decide); exact OpStep.plain rfl (Step.move (p := (.tup [(false, [.row 1034 []]), (false, [.d (.bool (inclOk aL aX))])])) (t := 27) rfl rfl (by exact lt_ok rfl) (show Env.ev E (.tmp 34) = _ from g34.trans rfl))) ?_
    refine .cons (fun E h => by have g27 := h.get 27 (by decide); exact OpStep.plain rfl (Step.extract (p := (.one (.row 1034 []))) (t := 35) rfl rfl (by exact lt_ok rfl) (show Env.ev E (.tmp 27) = _ from g27.trans rfl) rfl)) ?_
    refine .cons (fun E h => by have g27 := h.get 27 (by decide); exact OpStep.plain rfl (Step.extract (p := (.one (.d (.bool (inclOk aL aX))))) (t := 36) rfl rfl (by exact lt_ok rfl) (show Env.ev E (.tmp 27) = _ from g27.trans rfl) rfl)) ?_
    refine .cons (fun E h => by have g35 := h.get 35 (by decide); exact OpStep.plain rfl (Step.assign (p := (.one (.row 1034 []))) (t := 8) rfl rfl (by exact lt_ok rfl) (show Env.ev E (.tmp 35) = _ from g35.trans rfl))) ?_
    refine .cons (fun E h => by have g36 := h.get 36 (by decide); exact OpStep.plain rfl (Step.assign (p := (.one (.d (.bool (inclOk aL aX))))) (t := 9) rfl rfl (by exact lt_ok rfl) (show Env.ev E (.tmp 36) = _ from g36.trans rfl))) ?_
    exact .nil _ _
   refine TL.nil ?_
   refine T.seq ?_
   refine T.region ?_
   refine TL.cons rfl (Step.move (p := (.one (.d (.ints .u8 aB)))) rfl rfl (lt_ok rfl) rfl) ?_
   refine TL.cons rfl (Step.call (f := 49) (xs := [.tmp 37]) (ps := [(.one (.d (.ints .u8 aB)))]) false (g := .func 49) rfl rfl (lt_ok rfl) rfl (by kernel_rfl) rfl (.cons (.one (.d _)) .nil) (ok_laws_toByteS aB (by first | omega | assumption | exact mem_getD h0_.2 (by omega))) (.inr rfl) rfl (by simp) rfl) ?_
   refine TL.cons rfl (Step.assign (p := (.one (.row 1038 []))) rfl rfl (lt_ok rfl) rfl) ?_
   refine TL.nil ?_
   refine T.seq ?_
   refine T.region ?_
   refine TL.cons rfl (Step.load_box_agg (n := 5) (qs := [.d (.int .i64 aX.f0), .d (.int .i64 aX.f1), .d (.int .i64 aX.f2), .d (.ints .u8 aX.f3), .d (.bss aX.f4)]) rfl rfl (lt_ok rfl) (by kernel_rfl) rfl rfl rfl rfl) ?_
   refine TL.cons rfl (Step.call (f := 55) (xs := [.tmp 39]) (ps := [(.agg [.d (.int .i64 aX.f0), .d (.int .i64 aX.f1), .d (.int .i64 aX.f2), .d (.ints .u8 aX.f3), .d (.bss aX.f4)])]) false (g := .func 55) rfl rfl (lt_ok rfl) rfl (by kernel_rfl) rfl (.cons (.agg (.cons (.d _) (.cons (.d _) (.cons (.d _) (.cons (.d _) (.cons (.d _) .nil)))))) .nil) (ok_laws_toIncl aX (by first | assumption | exact ⟨‹_›, ‹_›⟩ | (refine mem_getD (p := SIncl.sm) h0_.2 (by omega)) | exact mem_getD h0_.2 (by omega))) (.inr rfl) rfl (by simp) rfl) ?_
   refine TL.cons rfl (Step.alloc (cs := [.int .i64 0, .int .i64 0, .int .i64 0, .slice none 0 0, .slice none 0 0]) (ps := [.d (.int .i64 0), .d (.int .i64 0), .d (.int .i64 0), .nil, .nil]) rfl rfl (lt_ok rfl) (by kernel_rfl) rfl rfl rfl rfl) ?_
   refine TL.cons rfl (Step.store_box (n := 5) (p := (.agg [.d (.int .i64 aX.f0), .d (.int .i64 aX.f1), .d (.int .i64 aX.f2), .row 4040 [], .row 5040 []])) (qs := [.d (.int .i64 aX.f0), .d (.int .i64 aX.f1), .d (.int .i64 aX.f2), .row 4040 [], .row 5040 []]) (ps' := [.d (.int .i64 aX.f0), .d (.int .i64 aX.f1), .d (.int .i64 aX.f2), .row 4040 [], .row 5040 []]) rfl rfl (by kernel_rfl) rfl rfl rfl rfl rfl rfl (le_ok rfl) rfl) ?_
   refine TL.nil ?_
   refine T.weaken (E' := { tm := [(1, (.one (.d (.ints .u8 aB)))), (3, (.one (.ptr 3 0))), (5, (.one (.ptr 5 0))), (6, (.one (.d (.bool false)))), (8, (.one (.row 1034 []))), (9, (.one (.d (.bool (inclOk aL aX))))), (10, (.one (.row 1038 []))), (11, (.one (.ptr 11 0)))], rows := [(1034, (5, (.ints .u8 (putIncl aL aB aX)))), (1038, (5, (.ints .u8 aB))), (4040, (5, (.ints .u8 aX.f3))), (5040, (22, (.bss aX.f4)))], boxes := [(3, (37, [.d (.int .i64 aL.f0), .d (.int .i64 aL.f1), .d (.int .i64 aL.f2), .d (.int .i64 aL.f3), .d (.int .i64 aL.f4)])), (11, (73, [.d (.int .i64 aX.f0), .d (.int .i64 aX.f1), .d (.int .i64 aX.f2), .row 4040 [], .row 5040 []])), (5, (88, [.d (.int .i64 aX.f0), .d (.int .i64 aX.f1), .d (.int .i64 aX.f2), .d (.ints .u8 aX.f3), .d (.bss aX.f4)]))] }) (Env.le_mk ⟨by kernel_rfl, by kernel_rfl, by kernel_rfl, by kernel_rfl, by kernel_rfl, by kernel_rfl, by kernel_rfl, by kernel_rfl, trivial⟩ ⟨by kernel_rfl, by kernel_rfl, by kernel_rfl, by kernel_rfl, trivial⟩ ⟨by kernel_rfl, by kernel_rfl, by kernel_rfl, trivial⟩) ?_
   refine T.seq ?_
   have nn5 := @putIncl_len aL aB aX (by assumption)
   refine T.draw [⟨42, (.agg [.d (.int .i64 aL.f0), .d (.int .i64 aL.f1), .d (.int .i64 aL.f2), .d (.int .i64 aL.f3), .d (.int .i64 aL.f4)]), []⟩, ⟨43, (.agg [.d (.int .i64 aL.f0), .d (.int .i64 aL.f1), .d (.int .i64 aL.f2), .d (.int .i64 aL.f3), .d (.int .i64 aL.f4)]), []⟩, ⟨44, (.one (.row 1038 [])), []⟩, ⟨45, (.agg [.d (.int .i64 aX.f0), .d (.int .i64 aX.f1), .d (.int .i64 aX.f2), .row 4040 [], .row 5040 []]), []⟩, ⟨46, (.tup [(false, [.row 1046 []]), (false, [.d (.bool (inclOk aL aX))])]), [(1046, (5, (.ints .u8 (putIncl aL aB aX))))]⟩, ⟨41, (.tup [(false, [.row 1046 []]), (false, [.d (.bool (inclOk aL aX))])]), []⟩, ⟨47, (.one (.row 1046 [])), []⟩, ⟨48, (.one (.d (.bool (inclOk aL aX)))), []⟩, ⟨12, (.one (.row 1046 [])), []⟩, ⟨13, (.one (.d (.bool (inclOk aL aX)))), []⟩] (by kernel_rfl) (by kernel_rfl) ?_ ?_
   ·
    refine .cons (fun E h => by have g3 := h.get 3 (by decide); exact OpStep.plain rfl (Step.load_box_agg (n := 5) (qs := [.d (.int .i64 aL.f0), .d (.int .i64 aL.f1), .d (.int .i64 aL.f2), .d (.int .i64 aL.f3), .d (.int .i64 aL.f4)]) (t := 42) rfl rfl (by exact lt_ok rfl) (by kernel_rfl) (show Env.ev E (.tmp 3) = _ from g3.trans rfl) (by exact h.box rfl) rfl rfl)) ?_
    refine .cons (fun E h => by have g42 := h.get 42 (by decide); exact OpStep.plain rfl (Step.call (f := 26) (xs := [.tmp 42]) (ps := [(.agg [.d (.int .i64 aL.f0), .d (.int .i64 aL.f1), .d (.int .i64 aL.f2), .d (.int .i64 aL.f3), .d (.int .i64 aL.f4)])]) false (g := .func 26) (t := 43) rfl rfl (by exact lt_ok rfl) rfl (by kernel_rfl) (evs_cons (show Env.ev E (.tmp 42) = _ from g42.trans rfl) (rfl)) (.cons (.agg (.cons (.d _) (.cons (.d _) (.cons (.d _) (.cons (.d _) (.cons (.d _) .nil)))))) .nil) (ok_laws_toLimits aL) (.inr rfl) (At.freshRows h rfl) (by simp) rfl)) ?_
    refine .cons (fun E h => by have g10 := h.get 10 (by decide); exact OpStep.plain rfl (Step.move (p := (.one (.row 1038 []))) (t := 44) rfl rfl (by exact lt_ok rfl) (show Env.ev E (.tmp 10) = _ from g10.trans rfl))) ?_
    refine .cons (fun E h => by have g11 := h.get 11 (by decide); exact OpStep.plain rfl (Step.load_box_agg (n := 5) (qs := [.d (.int .i64 aX.f0), .d (.int .i64 aX.f1), .d (.int .i64 aX.f2), .row 4040 [], .row 5040 []]) (t := 45) rfl rfl (by exact lt_ok rfl) (by kernel_rfl) (show Env.ev E (.tmp 11) = _ from g11.trans rfl) (by exact h.box rfl) rfl rfl)) ?_
    refine .cons (fun E h => by have g43 := h.get 43 (by decide); have g44 := h.get 44 (by decide); have g45 := h.get 45 (by decide); exact OpStep.plain rfl (Step.call (f := 56) (xs := [.tmp 43, .tmp 44, .tmp 45]) (ps := [(.agg [.d (.int .i64 aL.f0), .d (.int .i64 aL.f1), .d (.int .i64 aL.f2), .d (.int .i64 aL.f3), .d (.int .i64 aL.f4)]), (.one (.row 1038 [])), (.agg [.d (.int .i64 aX.f0), .d (.int .i64 aX.f1), .d (.int .i64 aX.f2), .row 4040 [], .row 5040 []])]) false (g := .func 56) (t := 46) rfl rfl (by exact lt_ok rfl) rfl (by kernel_rfl) (evs_cons (show Env.ev E (.tmp 43) = _ from g43.trans rfl) (evs_cons (show Env.ev E (.tmp 44) = _ from g44.trans rfl) (evs_cons (show Env.ev E (.tmp 45) = _ from g45.trans rfl) (rfl)))) (.cons (.agg (.cons (.d _) (.cons (.d _) (.cons (.d _) (.cons (.d _) (.cons (.d _) .nil)))))) (.cons (.one (.row rfl (by exact (h.row 1038 (by kernel_rfl)).trans rfl) rfl rfl)) (.cons (.agg (.cons (.d _) (.cons (.d _) (.cons (.d _) (.cons (.row rfl (by exact (h.row 4040 (by kernel_rfl)).trans rfl) rfl rfl) (.cons (.row rfl (by exact (h.row 5040 (by kernel_rfl)).trans rfl) rfl rfl) .nil)))))) .nil))) (ok_impl_PutIncl aL aB aX (by first | omega | assumption | (simp only [List.length_append] at *; omega)) (by assumption)) (.inr rfl) (At.freshRows h rfl) (by simp) rfl)) ?_
    refine .cons (fun E h => by have g46 := h.get 46 (by decide); exact OpStep.plain rfl (Step.move (p := (.tup [(false, [.row 1046 []]), (false, [.d (.bool (inclOk aL aX))])])) (t := 41) rfl rfl (by exact lt_ok rfl) (show Env.ev E (.tmp 46) = _ from g46.trans rfl))) ?_
    refine .cons (fun E h => by have g41 := h.get 41 (by decide); exact OpStep.plain rfl (Step.extract (p := (.one (.row 1046 []))) (t := 47) rfl rfl (by exact lt_ok rfl) (show Env.ev E (.tmp 41) = _ from g41.trans rfl) rfl)) ?_
    refine .cons (fun E h => by have g41 := h.get 41 (by decide); exact OpStep.plain rfl (Step.extract (p := (.one (.d (.bool (inclOk aL aX))))) (t := 48) rfl rfl (by exact lt_ok rfl) (show Env.ev E (.tmp 41) = _ from g41.trans rfl) rfl)) ?_
    refine .cons (fun E h => by have g47 := h.get 47 (by decide); exact OpStep.plain rfl (Step.assign (p := (.one (.row 1046 []))) (t := 12) rfl rfl (by exact lt_ok rfl) (show Env.ev E (.tmp 47) = _ from g47.trans rfl))) ?_
    refine .cons (fun E h => by have g48 := h.get 48 (by decide); exact OpStep.plain rfl (Step.assign (p := (.one (.d (.bool (inclOk aL aX))))) (t := 13) rfl rfl (by exact lt_ok rfl) (show Env.ev E (.tmp 48) = _ from g48.trans rfl))) ?_
    exact .nil _ _
   refine TL.nil ?_
   refine T.seq ?_
   refine T.seq ?_
   refine T.region ?_
   refine TL.cons rfl (Step.move (p := (.one (.row 1046 []))) rfl rfl (lt_ok rfl) rfl) ?_
   refine TL.cons rfl (Step.move (p := (.one (.row 1034 []))) rfl rfl (lt_ok rfl) rfl) ?_
   refine TL.cons rfl (Step.call (f := 29) (xs := [.tmp 49, .tmp 50]) (ps := [(.one (.row 1046 [])), (.one (.row 1034 []))]) false (g := .func 29) rfl rfl (lt_ok rfl) rfl (by kernel_rfl) rfl (.cons (.one (.row rfl rfl rfl rfl)) (.cons (.one (.row rfl rfl rfl rfl)) .nil)) (ok_laws_eqByteS (putIncl aL aB aX) (putIncl aL aB aX)) (.inr rfl) rfl (by simp) rfl) ?_
   refine TL.known 51 (c := true) (by simp) rfl ?_
   refine TL.cons rfl (Step.not (b := true) rfl rfl (lt_ok rfl) rfl) ?_
   refine TL.cons rfl (Step.move (p := (.one (.d (.bool false)))) rfl rfl (lt_ok rfl) rfl) ?_
   refine TL.gyes 53 rfl rfl (lt_ok rfl) rfl (Step.move (p := (.one (.d (.bool (inclOk aL aX))))) rfl rfl (lt_ok rfl) rfl) ?_
   refine TL.gyes 53 rfl rfl (lt_ok rfl) rfl (Step.move (p := (.one (.d (.bool (inclOk aL aX))))) rfl rfl (lt_ok rfl) rfl) ?_
   refine TL.gyes 53 rfl rfl (lt_ok rfl) rfl (Step.bneq (b := (inclOk aL aX)) (c := (inclOk aL aX)) rfl rfl (lt_ok rfl) (by kernel_rfl) rfl rfl) ?_
   refine TL.known 56 (c := false) (by simp) rfl ?_
   refine TL.cons rfl (Step.pick (b := false) (p := (.one (.d (.bool false)))) rfl rfl (lt_ok rfl) rfl rfl) ?_
   refine TL.nil ?_
   refine T.cond (b := false) rfl (fun h6_ => absurd h6_ (by simp)) (fun h6_ => ?_)
   refine T.skip ?_
   refine T.seq ?_
   refine T.seq ?_
   refine T.region ?_
   refine TL.cons rfl (Step.move (p := (.one (.row 1038 []))) rfl rfl (lt_ok rfl) rfl) ?_
   refine TL.cons rfl (Step.move (p := (.one (.d (.ints .u8 aB)))) rfl rfl (lt_ok rfl) rfl) ?_
   refine TL.cons rfl (Step.call (f := 49) (xs := [.tmp 59]) (ps := [(.one (.d (.ints .u8 aB)))]) false (g := .func 49) rfl rfl (lt_ok rfl) rfl (by kernel_rfl) rfl (.cons (.one (.d _)) .nil) (ok_laws_toByteS aB (by first | omega | assumption | exact mem_getD h0_.2 (by omega))) (.inr rfl) rfl (by simp) rfl) ?_
   refine TL.cons rfl (Step.call (f := 29) (xs := [.tmp 58, .tmp 60]) (ps := [(.one (.row 1038 [])), (.one (.row 1060 []))]) false (g := .func 29) rfl rfl (lt_ok rfl) rfl (by kernel_rfl) rfl (.cons (.one (.row rfl rfl rfl rfl)) (.cons (.one (.row rfl rfl rfl rfl)) .nil)) (ok_laws_eqByteS aB aB) (.inr rfl) rfl (by simp) rfl) ?_
   refine TL.known 61 (c := true) (by simp) rfl ?_
   refine TL.cons rfl (Step.not (b := true) rfl rfl (lt_ok rfl) rfl) ?_
   refine TL.nil ?_
   refine T.cond (b := false) rfl (fun h7_ => absurd h7_ (by simp)) (fun h7_ => ?_)
   refine T.skip ?_
   refine T.seq ?_
   refine T.seq ?_
   refine T.draw [⟨63, (.agg [.d (.int .i64 aX.f0), .d (.int .i64 aX.f1), .d (.int .i64 aX.f2), .row 4040 [], .row 5040 []]), []⟩, ⟨64, (.agg [.d (.int .i64 aX.f0), .d (.int .i64 aX.f1), .d (.int .i64 aX.f2), .d (.ints .u8 aX.f3), .d (.bss aX.f4)]), []⟩, ⟨65, (.agg [.d (.int .i64 aX.f0), .d (.int .i64 aX.f1), .d (.int .i64 aX.f2), .row 4065 [], .row 5065 []]), [(5065, (22, (.bss aX.f4))), (4065, (5, (.ints .u8 aX.f3)))]⟩, ⟨66, (.one (.d (.bool true))), []⟩, ⟨67, (.one (.d (.bool false))), []⟩] (by kernel_rfl) (by kernel_rfl) ?_ ?_
   ·
    refine .cons (fun E h => by have g11 := h.get 11 (by decide); exact OpStep.plain rfl (Step.load_box_agg (n := 5) (qs := [.d (.int .i64 aX.f0), .d (.int .i64 aX.f1), .d (.int .i64 aX.f2), .row 4040 [], .row 5040 []]) (t := 63) rfl rfl (by exact lt_ok rfl) (by kernel_rfl) (show Env.ev E (.tmp 11) = _ from g11.trans rfl) (by exact h.box rfl) rfl rfl)) ?_
    refine .cons (fun E h => by have g5 := h.get 5 (by decide); exact OpStep.plain rfl (Step.load_box_agg (n := 5) (qs := [.d (.int .i64 aX.f0), .d (.int .i64 aX.f1), .d (.int .i64 aX.f2), .d (.ints .u8 aX.f3), .d (.bss aX.f4)]) (t := 64) rfl rfl (by exact lt_ok rfl) (by kernel_rfl) (show Env.ev E (.tmp 5) = _ from g5.trans rfl) (by exact h.box rfl) rfl rfl)) ?_
    refine .cons (fun E h => by have g64 := h.get 64 (by decide); exact OpStep.plain rfl (Step.call (f := 55) (xs := [.tmp 64]) (ps := [(.agg [.d (.int .i64 aX.f0), .d (.int .i64 aX.f1), .d (.int .i64 aX.f2), .d (.ints .u8 aX.f3), .d (.bss aX.f4)])]) false (g := .func 55) (t := 65) rfl rfl (by exact lt_ok rfl) rfl (by kernel_rfl) (evs_cons (show Env.ev E (.tmp 64) = _ from g64.trans rfl) (rfl)) (.cons (.agg (.cons (.d _) (.cons (.d _) (.cons (.d _) (.cons (.d _) (.cons (.d _) .nil)))))) .nil) (ok_laws_toIncl aX (by first | assumption | exact ⟨‹_›, ‹_›⟩ | (refine mem_getD (p := SIncl.sm) h0_.2 (by omega)) | exact mem_getD h0_.2 (by omega))) (.inr rfl) (At.freshRows h rfl) (by simp) rfl)) ?_
    refine .cons (fun E h => by have g63 := h.get 63 (by decide); have g65 := h.get 65 (by decide); exact OpStep.plain rfl (Step.to (E1 := E.set 66 (.one (.d (.bool (decide (aX = aX)))))) (congrArg (fun b_ => E.set 66 (.one (.d (.bool b_)))) (by simp : (decide (aX = aX)) = true)) (Step.call (f := 57) (xs := [.tmp 63, .tmp 65]) (ps := [(.agg [.d (.int .i64 aX.f0), .d (.int .i64 aX.f1), .d (.int .i64 aX.f2), .row 4040 [], .row 5040 []]), (.agg [.d (.int .i64 aX.f0), .d (.int .i64 aX.f1), .d (.int .i64 aX.f2), .row 4065 [], .row 5065 []])]) false (g := .func 57) (t := 66) rfl rfl (by exact lt_ok rfl) rfl (by kernel_rfl) (evs_cons (show Env.ev E (.tmp 63) = _ from g63.trans rfl) (evs_cons (show Env.ev E (.tmp 65) = _ from g65.trans rfl) (rfl))) (.cons (.agg (.cons (.d _) (.cons (.d _) (.cons (.d _) (.cons (.row rfl (by exact (h.row 4040 (by kernel_rfl)).trans rfl) rfl rfl) (.cons (.row rfl (by exact (h.row 5040 (by kernel_rfl)).trans rfl) rfl rfl) .nil)))))) (.cons (.agg (.cons (.d _) (.cons (.d _) (.cons (.d _) (.cons (.row rfl (by exact (h.row 4065 (by kernel_rfl)).trans rfl) rfl rfl) (.cons (.row rfl (by exact (h.row 5065 (by kernel_rfl)).trans rfl) rfl rfl) .nil)))))) .nil)) (ok_laws_eqIncl aX aX) (.inr rfl) (At.freshRows h rfl) (by simp) rfl))) ?_
    refine .cons (fun E h => by have g66 := h.get 66 (by decide); exact OpStep.plain rfl (Step.not (b := true) (t := 67) rfl rfl (by exact lt_ok rfl) (show Env.ev E (.tmp 66) = _ from g66.trans rfl))) ?_
    exact .nil _ _
   refine TL.nil ?_
   refine T.cond (b := false) rfl (fun h8_ => absurd h8_ (by simp)) (fun h8_ => ?_)
   refine T.skip ?_
   refine T.seq ?_
   refine T.region ?_
   refine TL.cons rfl (Step.assign (p := (.one (.d (.int .i64 1)))) rfl rfl (lt_ok rfl) rfl) ?_
   refine TL.nil ?_
   refine T.seq ?_
   refine T.region ?_
   refine TL.cons rfl (Step.move (p := (.one (.row 1038 []))) rfl rfl (lt_ok rfl) rfl) ?_
   refine TL.cons rfl (Step.move (p := (.one (.d (.int .i64 1)))) rfl rfl (lt_ok rfl) rfl) ?_
   refine TL.cons rfl (Step.callM (f := 32) (xs := [.tmp 68, .tmp 69]) (ps := [(.one (.row 1038 [])), (.one (.d (.int .i64 1)))]) (args := [.one (.mk (.ints .u8 aB) (.ints .u8 (mkB aB 1))), .one (.rd (.int .i64 1))]) (js := [(1038, (.ints .u8 (mkB aB 1)))]) (x := (.int .i64 (1 + (aB.length : Int)))) (g := .func 32) rfl rfl (lt_ok rfl) rfl (by kernel_rfl) rfl rfl (.row (T := 5) (d := (.ints .u8 aB)) (e' := (.ints .u8 (mkB aB 1))) (d' := (.ints .u8 (mkB aB 1))) rfl rfl rfl rfl rfl (by simp [D.size, mkL_length]) rfl rfl (.d .nil)) (ok_laws_markByteS aB 1 (by omega) (by first | omega | (have := (by assumption); omega))) rfl) ?_
   refine TL.cons rfl (Step.assign (p := (.one (.d (.int .i64 (1 + (aB.length : Int)))))) rfl rfl (lt_ok rfl) rfl) ?_
   refine TL.nil ?_
   refine T.seq ?_
   refine T.region ?_
   refine TL.cons rfl (Step.load_box_agg (n := 5) (qs := [.d (.int .i64 aX.f0), .d (.int .i64 aX.f1), .d (.int .i64 aX.f2), .row 4040 [], .row 5040 []]) rfl rfl (lt_ok rfl) (by kernel_rfl) rfl rfl rfl rfl) ?_
   refine TL.cons rfl (Step.move (p := (.one (.d (.int .i64 (1 + (aB.length : Int)))))) rfl rfl (lt_ok rfl) rfl) ?_
   have nn9 := SIncl.cm_nn aX
   refine TL.cons rfl (Step.callM (f := 58) (xs := [.tmp 71, .tmp 72]) (ps := [(.agg [.d (.int .i64 aX.f0), .d (.int .i64 aX.f1), .d (.int .i64 aX.f2), .row 4040 [], .row 5040 []]), (.one (.d (.int .i64 (1 + (aB.length : Int)))))]) (args := [.agg [.rd (.int .i64 aX.f0), .rd (.int .i64 aX.f1), .rd (.int .i64 aX.f2), .mk (.ints .u8 aX.f3) (.ints .u8 (mkB aX.f3 (1 + (aB.length : Int)))), .mk (.bss aX.f4) (.bss (mkBs aX.f4 ((1 + (aB.length : Int)) + (aX.f3.length : Int))))], .one (.rd (.int .i64 (1 + (aB.length : Int))))]) (js := [(4040, (.ints .u8 (mkB aX.f3 (1 + (aB.length : Int))))), (5040, (.bss (mkBs aX.f4 ((1 + (aB.length : Int)) + (aX.f3.length : Int)))))]) (x := (.int .i64 ((1 + (aB.length : Int)) + aX.cm))) (g := .func 58) rfl rfl (lt_ok rfl) rfl (by kernel_rfl) rfl rfl (.d (.d (.d (.row (T := 5) (d := (.ints .u8 aX.f3)) (e' := (.ints .u8 (mkB aX.f3 (1 + (aB.length : Int))))) (d' := (.ints .u8 (mkB aX.f3 (1 + (aB.length : Int))))) rfl rfl rfl rfl rfl (by simp [D.size, mkL_length]) rfl rfl (.row (T := 22) (d := (.bss aX.f4)) (e' := (.bss (mkBs aX.f4 ((1 + (aB.length : Int)) + (aX.f3.length : Int))))) (d' := (.bss (mkBs aX.f4 ((1 + (aB.length : Int)) + (aX.f3.length : Int))))) rfl rfl rfl rfl rfl (by simp [D.size, mkL_length]) rfl rfl (.d .nil)))))) (ok_laws_markIncl aX (1 + (aB.length : Int)) (by omega) (by first | omega | (have := SIncl.cm_le (x := aX) (by assumption); omega))) rfl) ?_
   refine TL.cons rfl (Step.assign (p := (.one (.d (.int .i64 ((1 + (aB.length : Int)) + aX.cm))))) rfl rfl (lt_ok rfl) rfl) ?_
   refine TL.nil ?_
   refine T.weaken (E' := { tm := [(1, (.one (.d (.ints .u8 aB)))), (3, (.one (.ptr 3 0))), (5, (.one (.ptr 5 0))), (6, (.one (.d (.bool false)))), (8, (.one (.row 1034 []))), (9, (.one (.d (.bool (inclOk aL aX))))), (12, (.one (.row 1046 []))), (13, (.one (.d (.bool (inclOk aL aX))))), (14, (.one (.d (.int .i64 ((1 + (aB.length : Int)) + aX.cm)))))], rows := [(1034, (5, (.ints .u8 (putIncl aL aB aX)))), (1046, (5, (.ints .u8 (putIncl aL aB aX))))], boxes := [(3, (37, [.d (.int .i64 aL.f0), .d (.int .i64 aL.f1), .d (.int .i64 aL.f2), .d (.int .i64 aL.f3), .d (.int .i64 aL.f4)])), (5, (88, [.d (.int .i64 aX.f0), .d (.int .i64 aX.f1), .d (.int .i64 aX.f2), .d (.ints .u8 aX.f3), .d (.bss aX.f4)]))] }) (Env.le_mk ⟨by kernel_rfl, by kernel_rfl, by kernel_rfl, by kernel_rfl, by kernel_rfl, by kernel_rfl, by kernel_rfl, by kernel_rfl, by kernel_rfl, trivial⟩ ⟨by kernel_rfl, by kernel_rfl, trivial⟩ ⟨by kernel_rfl, by kernel_rfl, trivial⟩) ?_
   refine T.seq ?_
   refine T.seq ?_
   refine T.region ?_
   refine TL.cons rfl (Step.move (p := (.one (.d (.int .i64 ((1 + (aB.length : Int)) + aX.cm))))) rfl rfl (lt_ok rfl) rfl) ?_
   refine TL.cons rfl (Step.bin rfl rfl (lt_ok rfl) rfl rfl (Bin.lss (k := .i64) (a := ((1 + (aB.length : Int)) + aX.cm)) (b := 0))) ?_
   refine TL.known 75 (c := false) (decide_eq_false (by omega)) rfl ?_
   refine TL.cons rfl (Step.move (p := (.one (.d (.bool false)))) rfl rfl (lt_ok rfl) rfl) ?_
   refine TL.gyes 76 rfl rfl (lt_ok rfl) rfl (Step.move (p := (.one (.row 1046 []))) rfl rfl (lt_ok rfl) rfl) ?_
   refine TL.gyes 76 rfl rfl (lt_ok rfl) rfl (Step.move (p := (.one (.row 1034 []))) rfl rfl (lt_ok rfl) rfl) ?_
   refine TL.gyes 76 rfl rfl (lt_ok rfl) rfl (Step.call (f := 29) (xs := [.tmp 77, .tmp 78]) (ps := [(.one (.row 1046 [])), (.one (.row 1034 []))]) false (g := .func 29) rfl rfl (lt_ok rfl) rfl (by kernel_rfl) rfl (.cons (.one (.row rfl rfl rfl rfl)) (.cons (.one (.row rfl rfl rfl rfl)) .nil)) (ok_laws_eqByteS (putIncl aL aB aX) (putIncl aL aB aX)) (.inr rfl) rfl (by simp) rfl) ?_
   refine TL.known 79 (c := true) (by simp) rfl ?_
   refine TL.gyes 76 rfl rfl (lt_ok rfl) rfl (Step.not (b := true) rfl rfl (lt_ok rfl) rfl) ?_
   refine TL.cons rfl (Step.pick (b := false) (p := (.one (.d (.bool false)))) rfl rfl (lt_ok rfl) rfl rfl) ?_
   refine TL.cons rfl (Step.move (p := (.one (.d (.bool false)))) rfl rfl (lt_ok rfl) rfl) ?_
   refine TL.gyes 82 rfl rfl (lt_ok rfl) rfl (Step.move (p := (.one (.d (.bool (inclOk aL aX))))) rfl rfl (lt_ok rfl) rfl) ?_
   refine TL.gyes 82 rfl rfl (lt_ok rfl) rfl (Step.move (p := (.one (.d (.bool (inclOk aL aX))))) rfl rfl (lt_ok rfl) rfl) ?_
   refine TL.gyes 82 rfl rfl (lt_ok rfl) rfl (Step.bneq (b := (inclOk aL aX)) (c := (inclOk aL aX)) rfl rfl (lt_ok rfl) (by kernel_rfl) rfl rfl) ?_
   refine TL.known 85 (c := false) (by simp) rfl ?_
   refine TL.cons rfl (Step.pick (b := false) (p := (.one (.d (.bool false)))) rfl rfl (lt_ok rfl) rfl rfl) ?_
   refine TL.nil ?_
   refine T.cond (b := false) rfl (fun h10_ => absurd h10_ (by simp)) (fun h10_ => ?_)
   refine T.skip ?_
   refine T.seq ?_
   refine T.region ?_
   refine TL.cons rfl (Step.assign (p := (.one (.d (.int .i64 1)))) rfl rfl (lt_ok rfl) rfl) ?_
   refine TL.nil ?_
   refine T.seq ?_
   refine T.region ?_
   refine TL.cons rfl (Step.move (p := (.one (.row 1046 []))) rfl rfl (lt_ok rfl) rfl) ?_
   refine TL.cons rfl (Step.move (p := (.one (.d (.int .i64 1)))) rfl rfl (lt_ok rfl) rfl) ?_
   refine TL.cons rfl (Step.callM (f := 32) (xs := [.tmp 87, .tmp 88]) (ps := [(.one (.row 1046 [])), (.one (.d (.int .i64 1)))]) (args := [.one (.mk (.ints .u8 (putIncl aL aB aX)) (.ints .u8 (mkB (putIncl aL aB aX) 1))), .one (.rd (.int .i64 1))]) (js := [(1046, (.ints .u8 (mkB (putIncl aL aB aX) 1)))]) (x := (.int .i64 (1 + ((putIncl aL aB aX).length : Int)))) (g := .func 32) rfl rfl (lt_ok rfl) rfl (by kernel_rfl) rfl rfl (.row (T := 5) (d := (.ints .u8 (putIncl aL aB aX))) (e' := (.ints .u8 (mkB (putIncl aL aB aX) 1))) (d' := (.ints .u8 (mkB (putIncl aL aB aX) 1))) rfl rfl rfl rfl rfl (by simp [D.size, mkL_length]) rfl rfl (.d .nil)) (ok_laws_markByteS (putIncl aL aB aX) 1 (by omega) (by first | omega | (have := (by assumption); omega))) rfl) ?_
   refine TL.cons rfl (Step.assign (p := (.one (.d (.int .i64 (1 + ((putIncl aL aB aX).length : Int)))))) rfl rfl (lt_ok rfl) rfl) ?_
   refine TL.nil ?_
   refine T.seq ?_
   refine T.region ?_
   refine TL.cons rfl (Step.assign (p := (.one (.d (.int .i64 1)))) rfl rfl (lt_ok rfl) rfl) ?_
   refine TL.nil ?_
   refine T.seq ?_
   refine T.region ?_
   refine TL.cons rfl (Step.move (p := (.one (.row 1046 []))) rfl rfl (lt_ok rfl) rfl) ?_
   refine TL.cons rfl (Step.move (p := (.one (.d (.int .i64 1)))) rfl rfl (lt_ok rfl) rfl) ?_
   refine TL.cons rfl (Step.call (f := 33) (xs := [.tmp 90, .tmp 91]) (ps := [(.one (.row 1046 [])), (.one (.d (.int .i64 1)))]) false (g := .func 33) rfl rfl (lt_ok rfl) rfl (by kernel_rfl) rfl (.cons (.one (.row rfl rfl rfl rfl)) (.cons (.one (.d _)) .nil)) (ok_laws_heldByteS (putIncl aL aB aX) (mkB (putIncl aL aB aX) 1) 1 (by omega) (by first | omega | (have := (by assumption); omega)) (by first | rfl | assumption | (repeat' (first | rfl | apply And.intro)))) (.inr rfl) rfl (by simp) rfl) ?_
   refine TL.cons rfl (Step.assign (p := (.one (.d (.int .i64 (1 + ((putIncl aL aB aX).length : Int)))))) rfl rfl (lt_ok rfl) rfl) ?_
   refine TL.nil ?_
   refine T.seq ?_
   refine T.seq ?_
   refine T.region ?_
   refine TL.cons rfl (Step.move (p := (.one (.d (.int .i64 (1 + ((putIncl aL aB aX).length : Int)))))) rfl rfl (lt_ok rfl) rfl) ?_
   refine TL.cons rfl (Step.bin rfl rfl (lt_ok rfl) rfl rfl (Bin.lss (k := .i64) (a := (1 + ((putIncl aL aB aX).length : Int))) (b := 0))) ?_
   refine TL.known 94 (c := false) (decide_eq_false (by omega)) rfl ?_
   refine TL.nil ?_
   refine T.cond (b := false) rfl (fun h11_ => absurd h11_ (by simp)) (fun h11_ => ?_)
   refine T.skip ?_
   refine T.seq ?_
   refine T.seq ?_
   refine T.region ?_
   refine TL.cons rfl (Step.move (p := (.one (.d (.int .i64 (1 + ((putIncl aL aB aX).length : Int)))))) rfl rfl (lt_ok rfl) rfl) ?_
   refine TL.cons rfl (Step.move (p := (.one (.d (.int .i64 (1 + ((putIncl aL aB aX).length : Int)))))) rfl rfl (lt_ok rfl) rfl) ?_
   refine TL.cons rfl (Step.bin rfl rfl (lt_ok rfl) rfl rfl (Bin.neq (k := .i64) (a := (1 + ((putIncl aL aB aX).length : Int))) (b := (1 + ((putIncl aL aB aX).length : Int))))) ?_
   refine TL.known 97 (c := false) (by simp) rfl ?_
   refine TL.nil ?_
   refine T.cond (b := false) rfl (fun h12_ => absurd h12_ (by simp)) (fun h12_ => ?_)
   refine T.skip ?_
   refine T.seq ?_
   have nn13 := @putIncl_len aL aB aX (by assumption)
   refine T.draw [⟨99, (.agg [.d (.int .i64 aL.f0), .d (.int .i64 aL.f1), .d (.int .i64 aL.f2), .d (.int .i64 aL.f3), .d (.int .i64 aL.f4)]), []⟩, ⟨100, (.agg [.d (.int .i64 aL.f0), .d (.int .i64 aL.f1), .d (.int .i64 aL.f2), .d (.int .i64 aL.f3), .d (.int .i64 aL.f4)]), []⟩, ⟨101, (.one (.d (.ints .u8 aB))), []⟩, ⟨102, (.one (.row 1102 [])), [(1102, (5, (.ints .u8 aB)))]⟩, ⟨103, (.agg [.d (.int .i64 aX.f0), .d (.int .i64 aX.f1), .d (.int .i64 aX.f2), .d (.ints .u8 aX.f3), .d (.bss aX.f4)]), []⟩, ⟨104, (.agg [.d (.int .i64 aX.f0), .d (.int .i64 aX.f1), .d (.int .i64 aX.f2), .row 4104 [], .row 5104 []]), [(5104, (22, (.bss aX.f4))), (4104, (5, (.ints .u8 aX.f3)))]⟩, ⟨105, (.tup [(false, [.row 1105 []]), (false, [.d (.bool (inclOk aL aX))])]), [(1105, (5, (.ints .u8 (putIncl aL aB aX))))]⟩, ⟨98, (.tup [(false, [.row 1105 []]), (false, [.d (.bool (inclOk aL aX))])]), []⟩, ⟨106, (.one (.row 1105 [])), []⟩, ⟨107, (.one (.d (.bool (inclOk aL aX)))), []⟩, ⟨17, (.one (.row 1105 [])), []⟩, ⟨18, (.one (.d (.bool (inclOk aL aX)))), []⟩] (by kernel_rfl) (by kernel_rfl) ?_ ?_
   ·
    refine .cons (fun E h => by have g3 := h.get 3 (by decide); exact OpStep.plain rfl (Step.load_box_agg (n := 5) (qs := [.d (.int .i64 aL.f0), .d (.int .i64 aL.f1), .d (.int .i64 aL.f2), .d (.int .i64 aL.f3), .d (.int .i64 aL.f4)]) (t := 99) rfl rfl (by exact lt_ok rfl) (by kernel_rfl) (show Env.ev E (.tmp 3) = _ from g3.trans rfl) (by exact h.box rfl) rfl rfl)) ?_
    refine .cons (fun E h => by have g99 := h.get 99 (by decide); exact OpStep.plain rfl (Step.call (f := 26) (xs := [.tmp 99]) (ps := [(.agg [.d (.int .i64 aL.f0), .d (.int .i64 aL.f1), .d (.int .i64 aL.f2), .d (.int .i64 aL.f3), .d (.int .i64 aL.f4)])]) false (g := .func 26) (t := 100) rfl rfl (by exact lt_ok rfl) rfl (by kernel_rfl) (evs_cons (show Env.ev E (.tmp 99) = _ from g99.trans rfl) (rfl)) (.cons (.agg (.cons (.d _) (.cons (.d _) (.cons (.d _) (.cons (.d _) (.cons (.d _) .nil)))))) .nil) (ok_laws_toLimits aL) (.inr rfl) (At.freshRows h rfl) (by simp) rfl)) ?_
    refine .cons (fun E h => by have g1 := h.get 1 (by decide); exact OpStep.plain rfl (Step.move (p := (.one (.d (.ints .u8 aB)))) (t := 101) rfl rfl (by exact lt_ok rfl) (show Env.ev E (.tmp 1) = _ from g1.trans rfl))) ?_
    refine .cons (fun E h => by have g101 := h.get 101 (by decide); exact OpStep.plain rfl (Step.call (f := 49) (xs := [.tmp 101]) (ps := [(.one (.d (.ints .u8 aB)))]) false (g := .func 49) (t := 102) rfl rfl (by exact lt_ok rfl) rfl (by kernel_rfl) (evs_cons (show Env.ev E (.tmp 101) = _ from g101.trans rfl) (rfl)) (.cons (.one (.d _)) .nil) (ok_laws_toByteS aB (by first | omega | assumption | exact mem_getD h0_.2 (by omega))) (.inr rfl) (At.freshRows h rfl) (by simp) rfl)) ?_
    refine .cons (fun E h => by have g5 := h.get 5 (by decide); exact OpStep.plain rfl (Step.load_box_agg (n := 5) (qs := [.d (.int .i64 aX.f0), .d (.int .i64 aX.f1), .d (.int .i64 aX.f2), .d (.ints .u8 aX.f3), .d (.bss aX.f4)]) (t := 103) rfl rfl (by exact lt_ok rfl) (by kernel_rfl) (show Env.ev E (.tmp 5) = _ from g5.trans rfl) (by exact h.box rfl) rfl rfl)) ?_
    refine .cons (fun E h => by have g103 := h.get 103 (by decide); exact OpStep.plain rfl (Step.call (f := 55) (xs := [.tmp 103]) (ps := [(.agg [.d (.int .i64 aX.f0), .d (.int .i64 aX.f1), .d (.int .i64 aX.f2), .d (.ints .u8 aX.f3), .d (.bss aX.f4)])]) false (g := .func 55) (t := 104) rfl rfl (by exact lt_ok rfl) rfl (by kernel_rfl) (evs_cons (show Env.ev E (.tmp 103) = _ from g103.trans rfl) (rfl)) (.cons (.agg (.cons (.d _) (.cons (.d _) (.cons (.d _) (.cons (.d _) (.cons (.d _) .nil)))))) .nil) (ok_laws_toIncl aX (by first | assumption | exact ⟨‹_›, ‹_›⟩ | (refine mem_getD (p := SIncl.sm) h0_.2 (by omega)) | exact mem_getD h0_.2 (by omega))) (.inr rfl) (At.freshRows h rfl) (by simp) rfl)) ?_
    refine .cons (fun E h => by have g100 := h.get 100 (by decide); have g102 := h.get 102 (by decide); have g104 := h.get 104 (by decide); exact OpStep.plain rfl (Step.call (f := 56) (xs := [.tmp 100, .tmp 102, .tmp 104]) (ps := [(.agg [.d (.int .i64 aL.f0), .d (.int .i64 aL.f1), .d (.int .i64 aL.f2), .d (.int .i64 aL.f3), .d (.int .i64 aL.f4)]), (.one (.row 1102 [])), (.agg [.d (.int .i64 aX.f0), .d (.int .i64 aX.f1), .d (.int .i64 aX.f2), .row 4104 [], .row 5104 []])]) false (g := .func 56) (t := 105) rfl rfl (by exact lt_ok rfl) rfl (by kernel_rfl) (evs_cons (show Env.ev E (.tmp 100) = _ from g100.trans rfl) (evs_cons (show Env.ev E (.tmp 102) = _ from g102.trans rfl) (evs_cons (show Env.ev E (.tmp 104) = _ from g104.trans rfl) (rfl)))) (.cons (.agg (.cons (.d _) (.cons (.d _) (.cons (.d _) (.cons (.d _) (.cons (.d _) .nil)))))) (.cons (.one (.row rfl (by exact (h.row 1102 (by kernel_rfl)).trans rfl) rfl rfl)) (.cons (.agg (.cons (.d _) (.cons (.d _) (.cons (.d _) (.cons (.row rfl (by exact (h.row 4104 (by kernel_rfl)).trans rfl) rfl rfl) (.cons (.row rfl (by exact (h.row 5104 (by kernel_rfl)).trans rfl) rfl rfl) .nil)))))) .nil))) (ok_impl_PutIncl aL aB aX (by first | omega | assumption | (simp only [List.length_append] at *; omega)) (by assumption)) (.inr rfl) (At.freshRows h rfl) (by simp) rfl)) ?_
    refine .cons (fun E h => by have g105 := h.get 105 (by decide); exact OpStep.plain rfl (Step.move (p := (.tup [(false, [.row 1105 []]), (false, [.d (.bool (inclOk aL aX))])])) (t := 98) rfl rfl (by exact lt_ok rfl) (show Env.ev E (.tmp 105) = _ from g105.trans rfl))) ?_
    refine .cons (fun E h => by have g98 := h.get 98 (by decide); exact OpStep.plain rfl (Step.extract (p := (.one (.row 1105 []))) (t := 106) rfl rfl (by exact lt_ok rfl) (show Env.ev E (.tmp 98) = _ from g98.trans rfl) rfl)) ?_
    refine .cons (fun E h => by have g98 := h.get 98 (by decide); exact OpStep.plain rfl (Step.extract (p := (.one (.d (.bool (inclOk aL aX))))) (t := 107) rfl rfl (by exact lt_ok rfl) (show Env.ev E (.tmp 98) = _ from g98.trans rfl) rfl)) ?_
    refine .cons (fun E h => by have g106 := h.get 106 (by decide); exact OpStep.plain rfl (Step.assign (p := (.one (.row 1105 []))) (t := 17) rfl rfl (by exact lt_ok rfl) (show Env.ev E (.tmp 106) = _ from g106.trans rfl))) ?_
    refine .cons (fun E h => by have g107 := h.get 107 (by decide); exact OpStep.plain rfl (Step.assign (p := (.one (.d (.bool (inclOk aL aX))))) (t := 18) rfl rfl (by exact lt_ok rfl) (show Env.ev E (.tmp 107) = _ from g107.trans rfl))) ?_
    exact .nil _ _
   refine TL.nil ?_
   refine T.seq ?_
   refine T.seq ?_
   refine T.region ?_
   refine TL.cons rfl (Step.move (p := (.one (.row 1105 []))) rfl rfl (lt_ok rfl) rfl) ?_
   refine TL.cons rfl (Step.move (p := (.one (.row 1034 []))) rfl rfl (lt_ok rfl) rfl) ?_
   refine TL.cons rfl (Step.call (f := 29) (xs := [.tmp 108, .tmp 109]) (ps := [(.one (.row 1105 [])), (.one (.row 1034 []))]) false (g := .func 29) rfl rfl (lt_ok rfl) rfl (by kernel_rfl) rfl (.cons (.one (.row rfl rfl rfl rfl)) (.cons (.one (.row rfl rfl rfl rfl)) .nil)) (ok_laws_eqByteS (putIncl aL aB aX) (putIncl aL aB aX)) (.inr rfl) rfl (by simp) rfl) ?_
   refine TL.known 110 (c := true) (by simp) rfl ?_
   refine TL.cons rfl (Step.not (b := true) rfl rfl (lt_ok rfl) rfl) ?_
   refine TL.cons rfl (Step.move (p := (.one (.d (.bool false)))) rfl rfl (lt_ok rfl) rfl) ?_
   refine TL.gyes 112 rfl rfl (lt_ok rfl) rfl (Step.move (p := (.one (.d (.bool (inclOk aL aX))))) rfl rfl (lt_ok rfl) rfl) ?_
   refine TL.gyes 112 rfl rfl (lt_ok rfl) rfl (Step.move (p := (.one (.d (.bool (inclOk aL aX))))) rfl rfl (lt_ok rfl) rfl) ?_
   refine TL.gyes 112 rfl rfl (lt_ok rfl) rfl (Step.bneq (b := (inclOk aL aX)) (c := (inclOk aL aX)) rfl rfl (lt_ok rfl) (by kernel_rfl) rfl rfl) ?_
   refine TL.known 115 (c := false) (by simp) rfl ?_
   refine TL.cons rfl (Step.pick (b := false) (p := (.one (.d (.bool false)))) rfl rfl (lt_ok rfl) rfl rfl) ?_
   refine TL.nil ?_
   refine T.weaken (E' := { tm := [(6, (.one (.d (.bool false)))), (12, (.one (.row 1046 []))), (15, (.one (.d (.int .i64 (1 + ((putIncl aL aB aX).length : Int)))))), (16, (.one (.d (.int .i64 (1 + ((putIncl aL aB aX).length : Int)))))), (116, (.one (.d (.bool false))))], rows := [(1046, (5, (.ints .u8 (mkB (putIncl aL aB aX) 1))))], boxes := [] }) (Env.le_mk ⟨by kernel_rfl, by kernel_rfl, by kernel_rfl, by kernel_rfl, by kernel_rfl, trivial⟩ ⟨by kernel_rfl, trivial⟩ trivial) ?_
   refine T.cond (b := false) rfl (fun h14_ => absurd h14_ (by simp)) (fun h14_ => ?_)
   refine T.skip ?_
   refine T.seq ?_
   refine T.region ?_
   refine TL.cons rfl (Step.assign (p := (.one (.d (.int .i64 1)))) rfl rfl (lt_ok rfl) rfl) ?_
   refine TL.nil ?_
   refine T.seq ?_
   refine T.region ?_
   refine TL.cons rfl (Step.move (p := (.one (.row 1046 []))) rfl rfl (lt_ok rfl) rfl) ?_
   refine TL.cons rfl (Step.move (p := (.one (.d (.int .i64 1)))) rfl rfl (lt_ok rfl) rfl) ?_
   refine TL.cons rfl (Step.call (f := 33) (xs := [.tmp 117, .tmp 118]) (ps := [(.one (.row 1046 [])), (.one (.d (.int .i64 1)))]) false (g := .func 33) rfl rfl (lt_ok rfl) rfl (by kernel_rfl) rfl (.cons (.one (.row rfl rfl rfl rfl)) (.cons (.one (.d _)) .nil)) (ok_laws_heldByteS (putIncl aL aB aX) (mkB (putIncl aL aB aX) 1) 1 (by omega) (by first | omega | (have := (by assumption); omega)) (by first | rfl | assumption | (repeat' (first | rfl | apply And.intro)))) (.inr rfl) rfl (by simp) rfl) ?_
   refine TL.cons rfl (Step.assign (p := (.one (.d (.int .i64 (1 + ((putIncl aL aB aX).length : Int)))))) rfl rfl (lt_ok rfl) rfl) ?_
   refine TL.nil ?_
   refine T.seq ?_
   refine T.seq ?_
   refine T.region ?_
   refine TL.cons rfl (Step.move (p := (.one (.d (.int .i64 (1 + ((putIncl aL aB aX).length : Int)))))) rfl rfl (lt_ok rfl) rfl) ?_
   refine TL.cons rfl (Step.bin rfl rfl (lt_ok rfl) rfl rfl (Bin.lss (k := .i64) (a := (1 + ((putIncl aL aB aX).length : Int))) (b := 0))) ?_
   refine TL.known 121 (c := false) (decide_eq_false (by omega)) rfl ?_
   refine TL.nil ?_
   refine T.cond (b := false) rfl (fun h15_ => absurd h15_ (by simp)) (fun h15_ => ?_)
   refine T.skip ?_
   refine T.seq ?_
   refine T.seq ?_
   refine T.region ?_
   refine TL.cons rfl (Step.move (p := (.one (.d (.int .i64 (1 + ((putIncl aL aB aX).length : Int)))))) rfl rfl (lt_ok rfl) rfl) ?_
   refine TL.cons rfl (Step.move (p := (.one (.d (.int .i64 (1 + ((putIncl aL aB aX).length : Int)))))) rfl rfl (lt_ok rfl) rfl) ?_
   refine TL.cons rfl (Step.bin rfl rfl (lt_ok rfl) rfl rfl (Bin.neq (k := .i64) (a := (1 + ((putIncl aL aB aX).length : Int))) (b := (1 + ((putIncl aL aB aX).length : Int))))) ?_
   refine TL.known 124 (c := false) (by simp) rfl ?_
   refine TL.nil ?_
   refine T.cond (b := false) rfl (fun h16_ => absurd h16_ (by simp)) (fun h16_ => ?_)
   refine T.skip ?_
   refine T.seq ?_
   refine T.region ?_
   refine TL.cons rfl (Step.assign (p := (.one (.d (.bool true)))) rfl rfl (lt_ok rfl) rfl) ?_
   refine TL.nil ?_
   refine T.ret ?_
   exact ⟨[(false, [.d (.bool true)])], (.cons rfl .nil), rfl, [], (RetC.rd' (by rfl) .nil)⟩
end Go.Proofs.Ythaagegnobegjaa.Rf
