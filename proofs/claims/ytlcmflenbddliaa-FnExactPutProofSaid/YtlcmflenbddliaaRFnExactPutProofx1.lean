/- The functions that FnExactPutProof calls, each held to what it answers. Printed by a program of this session; Lean checks it. -/
import Derived.Test.YtlcmflenbddliaaProg
import Derived.Test.YtlcmflenbddliaaRf27
import Derived.Test.YtlcmflenbddliaaRFnExactPutProofx0
namespace Go.Proofs.Ytlcmflenbddliaa.Rf
open Go.RowKit
set_option linter.unusedVariables false
set_option linter.unnecessarySimpa false
set_option linter.unusedSimpArgs false
set_option maxRecDepth 100000
set_option maxHeartbeats 4000000
theorem ok_spec_ProofOk (l : SLimits) (p : SProof) (h0_ : p.ok) (h1_ : p.sm) : RO Try.prog 69 [.agg l.cells, .agg p.cells] [(false, [.rd (.bool (proofOk l p))])] := by
 refine RO.intro Try.func69 rfl 39 rfl (le_ok rfl) fun w Z => ?_
 refine T.bnd 1 0 rfl rfl fun hb_1_0 => ?_
 simp only [D.size, List.length_map] at hb_1_0
 refine T.bnd 1 3 rfl rfl fun hb_1_3 => ?_
 simp only [D.size, List.length_map] at hb_1_3
 refine T.bnd 1 4 rfl rfl fun hb_1_4 => ?_
 simp only [D.size, List.length_map] at hb_1_4
 refine T.bnd 1 5 rfl rfl fun hb_1_5 => ?_
 simp only [D.size, List.length_map] at hb_1_5
 obtain ⟨o0, o1⟩ := h0_
 obtain ⟨s0, s1⟩ := h1_
 refine T.seq ?_
 refine T.region ?_
 refine TL.cons rfl (Step.box (p := (.agg [.d (.int .i64 l.f0), .d (.int .i64 l.f1), .d (.int .i64 l.f2), .d (.int .i64 l.f3), .d (.int .i64 l.f4)])) (ps := [.d (.int .i64 l.f0), .d (.int .i64 l.f1), .d (.int .i64 l.f2), .d (.int .i64 l.f3), .d (.int .i64 l.f4)]) rfl rfl (lt_ok rfl) rfl rfl rfl rfl rfl) ?_
 refine TL.cons rfl (Step.box (p := (.agg [.d (.sl 10 (p.f0.map SHead.cells)), .d (.int .i64 p.f1.f0), .d (.int .i64 p.f1.f1), .d (.ints .u8 p.f1.f2), .d (.ints .u8 p.f1.f3), .d (.bss p.f1.f4)])) (ps := [.d (.sl 10 (p.f0.map SHead.cells)), .d (.int .i64 p.f1.f0), .d (.int .i64 p.f1.f1), .d (.ints .u8 p.f1.f2), .d (.ints .u8 p.f1.f3), .d (.bss p.f1.f4)]) rfl rfl (lt_ok rfl) rfl rfl rfl rfl rfl) ?_
 refine TL.cons rfl (Step.assign (p := (.one (.d (.bool false)))) rfl rfl (lt_ok rfl) rfl) ?_
 refine TL.nil ?_
 refine T.seq ?_
 refine T.seq ?_
 refine T.region ?_
 refine TL.cons rfl (Step.load_box_agg (n := 5) (qs := [.d (.int .i64 l.f0), .d (.int .i64 l.f1), .d (.int .i64 l.f2), .d (.int .i64 l.f3), .d (.int .i64 l.f4)]) rfl rfl (lt_ok rfl) (by kernel_rfl) rfl rfl rfl rfl) ?_
 refine TL.cons rfl (Step.call (f := 122) (xs := [.tmp 7]) (ps := [(.agg [.d (.int .i64 l.f0), .d (.int .i64 l.f1), .d (.int .i64 l.f2), .d (.int .i64 l.f3), .d (.int .i64 l.f4)])]) false (g := .func 122) rfl rfl (lt_ok rfl) rfl (by kernel_rfl) rfl (.cons (.agg (.cons (.d _) (.cons (.d _) (.cons (.d _) (.cons (.d _) (.cons (.d _) .nil)))))) .nil) (ok_spec_LimitsOk l) (.inr rfl) rfl (by simp) rfl) ?_
 refine TL.cons rfl (Step.not (b := (limOk l)) rfl rfl (lt_ok rfl) rfl) ?_
 refine TL.cons rfl (Step.move (p := (.one (.d (.bool (!(limOk l)))))) rfl rfl (lt_ok rfl) rfl) ?_
 rcases Bool.eq_false_or_eq_true (!(limOk l)) with hb1 | hb1
 ·
  refine TL.known 10 hb1 rfl ?_
  have hb1' := hb1
  replace hb1' : (limOk l) = false := by simpa only [Bool.not_eq_true', Bool.not_eq_false'] using hb1'
  refine TL.goff 10 rfl rfl (lt_ok rfl) rfl rfl rfl (lt_ok rfl) ?_
  refine TL.goff 10 rfl rfl (lt_ok rfl) rfl rfl rfl (lt_ok rfl) ?_
  refine TL.goff 10 rfl rfl (lt_ok rfl) rfl rfl rfl (lt_ok rfl) ?_
  refine TL.goff 10 rfl rfl (lt_ok rfl) rfl rfl rfl (lt_ok rfl) ?_
  refine TL.goff 10 rfl rfl (lt_ok rfl) rfl rfl rfl (lt_ok rfl) ?_
  refine TL.goff 10 rfl rfl (lt_ok rfl) rfl rfl rfl (lt_ok rfl) ?_
  refine TL.goff 10 rfl rfl (lt_ok rfl) rfl rfl rfl (lt_ok rfl) ?_
  refine TL.cons rfl (Step.pick (b := true) (p := (.one (.d (.bool true)))) rfl rfl (lt_ok rfl) rfl rfl) ?_
  refine TL.nil ?_
  refine T.cond (b := true) rfl (fun h2_ => ?_) (fun h2_ => absurd h2_ (by simp))
  refine T.seq ?_
  refine T.region ?_
  refine TL.cons rfl (Step.assign (p := (.one (.d (.bool false)))) rfl rfl (lt_ok rfl) rfl) ?_
  refine TL.nil ?_
  refine T.ret ?_
  exact ⟨[(false, [.d (.bool false)])], (.cons rfl .nil), rfl, [], (RetC.rd' (by (congr 1; symm; first | (unfold proofOk; rw [qcOk_no (q := p.f1) (by assumption)]; simp; done) | (unfold proofOk; rw [decide_eq_false (p := (3 ≤ (p.f0.length : Int) ∧ (p.f0.length : Int) ≤ l.f4)) (by omega)]; simp; done) | (unfold proofOk; rw [headsOk_no (i := i) (by omega) (by assumption)]; simp; done) | (rw [List.take_of_length_le (by omega)] at hx2; unfold proofOk; rw [hx2, decide_eq_true (p := (3 ≤ (p.f0.length : Int) ∧ (p.f0.length : Int) ≤ l.f4)) (by omega)]; simp only [*, Bool.and_true, Bool.true_and, Bool.and_false, Bool.false_and, decide_true, decide_false, and_true, true_and, and_self, and_false, false_and, Bool.and_self, not_true, not_false, Bool.not_true, Bool.not_false, ge_iff_le, gt_iff_lt, if_true, if_false, Bool.false_eq_true, ite_true, ite_false, reduceIte]; done) | (rw [List.take_of_length_le (by omega)] at hx2; unfold proofOk; rw [hx2, decide_eq_true (p := (3 ≤ (p.f0.length : Int) ∧ (p.f0.length : Int) ≤ l.f4)) (by omega)]; simp_all; done))) .nil)⟩
 ·
  refine TL.known 10 hb1 rfl ?_
  have hb1' := hb1
  replace hb1' : (limOk l) = true := by simpa only [Bool.not_eq_true', Bool.not_eq_false'] using hb1'
  refine TL.gyes 10 rfl rfl (lt_ok rfl) rfl (Step.fieldAddr (q := 0) (off := 0) (n := 1) (one := true) rfl rfl (lt_ok rfl) (by kernel_rfl) (Nat.succ_ne_zero _) rfl) ?_
  refine TL.gyes 10 rfl rfl (lt_ok rfl) rfl (Step.load_box (c := .d (.sl 10 (p.f0.map SHead.cells))) rfl rfl (lt_ok rfl) (by kernel_rfl) rfl rfl rfl) ?_
  refine TL.gyes 10 rfl rfl (lt_ok rfl) rfl (Step.len' (e := 54) (z := 10) (d := (.sl 10 (p.f0.map SHead.cells))) (n := p.f0.length) rfl rfl (lt_ok rfl) (by kernel_rfl) rfl rfl (by simp [D.size])) ?_
  refine TL.gyes 10 rfl rfl (lt_ok rfl) rfl (Step.fieldAddr (q := 0) (off := 4) (n := 1) (one := true) rfl rfl (lt_ok rfl) (by kernel_rfl) (Nat.succ_ne_zero _) rfl) ?_
  refine TL.gyes 10 rfl rfl (lt_ok rfl) rfl (Step.load_box (c := .d (.int .i64 l.f4)) rfl rfl (lt_ok rfl) (by kernel_rfl) rfl rfl rfl) ?_
  refine TL.gyes 10 rfl rfl (lt_ok rfl) rfl (Step.call (f := 114) (xs := [.tmp 13, .const (.int .i64 3), .tmp 15]) (ps := [(.one (.d (.int .i64 (p.f0.length : Int)))), (.one (.d (.int .i64 3))), (.one (.d (.int .i64 l.f4)))]) false (g := .func 114) rfl rfl (lt_ok rfl) rfl (by kernel_rfl) rfl (.cons (.one (.d _)) (.cons (.one (.d _)) (.cons (.one (.d _)) .nil))) (ok_spec_l01In (p.f0.length : Int) 3 l.f4) (.inr rfl) rfl (by simp) rfl) ?_
  refine TL.gyes 10 rfl rfl (lt_ok rfl) rfl (Step.not (b := (decide (3 ≤ (p.f0.length : Int) ∧ (p.f0.length : Int) ≤ l.f4))) rfl rfl (lt_ok rfl) rfl) ?_
  refine TL.cons rfl (Step.pick (b := false) (p := (.one (.d (.bool (!(decide (3 ≤ (p.f0.length : Int) ∧ (p.f0.length : Int) ≤ l.f4))))))) rfl rfl (lt_ok rfl) rfl rfl) ?_
  refine TL.nil ?_
  refine T.cond (b := !(decide (3 ≤ (p.f0.length : Int) ∧ (p.f0.length : Int) ≤ l.f4))) rfl (fun h3 => ?_) (fun h3 => ?_)
  ·
   replace h3 : (decide (3 ≤ (p.f0.length : Int) ∧ (p.f0.length : Int) ≤ l.f4)) = false := by simpa only [Bool.not_eq_true', Bool.not_eq_false'] using h3
   replace h3 := of_decide_eq_false h3
   refine T.seq ?_
   refine T.region ?_
   refine TL.cons rfl (Step.assign (p := (.one (.d (.bool false)))) rfl rfl (lt_ok rfl) rfl) ?_
   refine TL.nil ?_
   refine T.ret ?_
   exact ⟨[(false, [.d (.bool false)])], (.cons rfl .nil), rfl, [], (RetC.rd' (by (congr 1; symm; first | (unfold proofOk; rw [qcOk_no (q := p.f1) (by assumption)]; simp; done) | (unfold proofOk; rw [decide_eq_false (p := (3 ≤ (p.f0.length : Int) ∧ (p.f0.length : Int) ≤ l.f4)) (by omega)]; simp; done) | (unfold proofOk; rw [headsOk_no (i := i) (by omega) (by assumption)]; simp; done) | (rw [List.take_of_length_le (by omega)] at hx2; unfold proofOk; rw [hx2, decide_eq_true (p := (3 ≤ (p.f0.length : Int) ∧ (p.f0.length : Int) ≤ l.f4)) (by omega)]; simp only [*, Bool.and_true, Bool.true_and, Bool.and_false, Bool.false_and, decide_true, decide_false, and_true, true_and, and_self, and_false, false_and, Bool.and_self, not_true, not_false, Bool.not_true, Bool.not_false, ge_iff_le, gt_iff_lt, if_true, if_false, Bool.false_eq_true, ite_true, ite_false, reduceIte]; done) | (rw [List.take_of_length_le (by omega)] at hx2; unfold proofOk; rw [hx2, decide_eq_true (p := (3 ≤ (p.f0.length : Int) ∧ (p.f0.length : Int) ≤ l.f4)) (by omega)]; simp_all; done))) .nil)⟩
  ·
   replace h3 : (decide (3 ≤ (p.f0.length : Int) ∧ (p.f0.length : Int) ≤ l.f4)) = true := by simpa only [Bool.not_eq_true', Bool.not_eq_false'] using h3
   replace h3 := of_decide_eq_true h3
   refine T.skip ?_
   refine T.seq ?_
   refine T.seq ?_
   refine T.region ?_
   refine TL.cons rfl (Step.fieldAddr (q := 0) (off := 0) (n := 1) (one := true) rfl rfl (lt_ok rfl) (by kernel_rfl) (Nat.succ_ne_zero _) rfl) ?_
   refine TL.cons rfl (Step.load_box (c := .d (.sl 10 (p.f0.map SHead.cells))) rfl rfl (lt_ok rfl) (by kernel_rfl) rfl rfl rfl) ?_
   refine TL.cons rfl (Step.len' (e := 54) (z := 10) (d := (.sl 10 (p.f0.map SHead.cells))) (n := p.f0.length) rfl rfl (lt_ok rfl) (by kernel_rfl) rfl rfl (by simp [D.size])) ?_
   refine TL.cons rfl (Step.move (p := (.one (.d (.int .i64 0)))) rfl rfl (lt_ok rfl) rfl) ?_
   refine TL.nil ?_
   refine T.block ?_
   refine T.loop (ι := Nat) (fun xx_ => { tm := [(2, (.one (.ptr 2 0))), (3, (.one (.ptr 3 0))), (20, (.one (.d (.sl 10 (p.f0.map SHead.cells))))), (21, (.one (.d (.int .i64 (p.f0.length : Int))))), (22, (.one (.d (.int .i64 (xx_ : Int)))))], rows := [], boxes := [(2, (34, [.d (.int .i64 l.f0), .d (.int .i64 l.f1), .d (.int .i64 l.f2), .d (.int .i64 l.f3), .d (.int .i64 l.f4)])), (3, (40, [.d (.sl 10 (p.f0.map SHead.cells)), .d (.int .i64 p.f1.f0), .d (.int .i64 p.f1.f1), .d (.ints .u8 p.f1.f2), .d (.ints .u8 p.f1.f3), .d (.bss p.f1.f4)]))] }) (fun xx_ => xx_ ≤ p.f0.length ∧ headsOk l (p.f0.take xx_) = true) (fun xx_ => p.f0.length - xx_) 0 ?_ ?_ ?_
   · exact Env.le_mk ⟨rfl, rfl, rfl, rfl, by first | rfl | (simp; done) | (congr 3; omega), trivial⟩ trivial ⟨rfl, rfl, trivial⟩
   · exact ⟨Nat.zero_le _, by rw [List.take_zero]; rfl⟩
   ·
    intro i hx
    try dsimp only at hx ⊢
    obtain ⟨hx1, hx2⟩ := hx
    refine T.seq ?_
    refine T.region ?_
    refine TL.cons rfl (Step.bin rfl rfl (lt_ok rfl) rfl rfl (Bin.lss (k := .i64) (a := (i : Int)) (b := (p.f0.length : Int)))) ?_
    refine TL.nil ?_
    refine T.seq ?_
    refine T.cond (b := decide ((i : Int) < (p.f0.length : Int))) rfl (fun h4 => ?_) (fun h4 => ?_)
    ·
     replace h4 := of_decide_eq_true h4
     refine T.skip ?_
     refine T.seq ?_
     refine T.block ?_
     refine T.seq ?_
     refine T.region ?_
     refine TL.cons rfl (Step.index (e := 54) (z := 10) (i := (i : Int)) rfl rfl (lt_ok rfl) (by kernel_rfl) rfl rfl rfl (lt_ok rfl) rfl (by first | omega | (simp; omega)) (by simp only [D.size]; first | omega | (simp; omega))) ?_
     refine TL.cons rfl (Step.load_agg (n := 10) (cs := [.d (.int .i64 (p.f0.getD i default).f0), .d (.int .i64 (p.f0.getD i default).f1), .d (.int .i64 (p.f0.getD i default).f2), .d (.ints .u8 (p.f0.getD i default).f3), .d (.ints .u8 (p.f0.getD i default).f4), .d (.int .i64 (p.f0.getD i default).f5.f0), .d (.int .i64 (p.f0.getD i default).f5.f1), .d (.ints .u8 (p.f0.getD i default).f5.f2), .d (.ints .u8 (p.f0.getD i default).f5.f3), .d (.bss (p.f0.getD i default).f5.f4)]) rfl rfl (lt_ok rfl) (by kernel_rfl) rfl rfl (by simp only [List.range, List.range.loop, List.map_cons, List.map_nil]; rw [cell_map default (by first | omega | (simp; omega)), cell_map default (by first | omega | (simp; omega)), cell_map default (by first | omega | (simp; omega)), cell_map default (by first | omega | (simp; omega)), cell_map default (by first | omega | (simp; omega)), cell_map default (by first | omega | (simp; omega)), cell_map default (by first | omega | (simp; omega)), cell_map default (by first | omega | (simp; omega)), cell_map default (by first | omega | (simp; omega)), cell_map default (by first | omega | (simp; omega))]; rfl)) ?_
     refine TL.cons rfl (Step.alloc (cs := [.int .i64 0, .int .i64 0, .int .i64 0, .slice none 0 0, .slice none 0 0, .int .i64 0, .int .i64 0, .slice none 0 0, .slice none 0 0, .slice none 0 0]) (ps := [.d (.int .i64 0), .d (.int .i64 0), .d (.int .i64 0), .nil, .nil, .d (.int .i64 0), .d (.int .i64 0), .nil, .nil, .nil]) rfl rfl (lt_ok rfl) (by kernel_rfl) rfl rfl rfl rfl) ?_
     refine TL.cons rfl (Step.store_box (n := 10) (p := (.agg [.d (.int .i64 (p.f0.getD i default).f0), .d (.int .i64 (p.f0.getD i default).f1), .d (.int .i64 (p.f0.getD i default).f2), .d (.ints .u8 (p.f0.getD i default).f3), .d (.ints .u8 (p.f0.getD i default).f4), .d (.int .i64 (p.f0.getD i default).f5.f0), .d (.int .i64 (p.f0.getD i default).f5.f1), .d (.ints .u8 (p.f0.getD i default).f5.f2), .d (.ints .u8 (p.f0.getD i default).f5.f3), .d (.bss (p.f0.getD i default).f5.f4)])) (qs := [.d (.int .i64 (p.f0.getD i default).f0), .d (.int .i64 (p.f0.getD i default).f1), .d (.int .i64 (p.f0.getD i default).f2), .d (.ints .u8 (p.f0.getD i default).f3), .d (.ints .u8 (p.f0.getD i default).f4), .d (.int .i64 (p.f0.getD i default).f5.f0), .d (.int .i64 (p.f0.getD i default).f5.f1), .d (.ints .u8 (p.f0.getD i default).f5.f2), .d (.ints .u8 (p.f0.getD i default).f5.f3), .d (.bss (p.f0.getD i default).f5.f4)]) (ps' := [.d (.int .i64 (p.f0.getD i default).f0), .d (.int .i64 (p.f0.getD i default).f1), .d (.int .i64 (p.f0.getD i default).f2), .d (.ints .u8 (p.f0.getD i default).f3), .d (.ints .u8 (p.f0.getD i default).f4), .d (.int .i64 (p.f0.getD i default).f5.f0), .d (.int .i64 (p.f0.getD i default).f5.f1), .d (.ints .u8 (p.f0.getD i default).f5.f2), .d (.ints .u8 (p.f0.getD i default).f5.f3), .d (.bss (p.f0.getD i default).f5.f4)]) rfl rfl (by kernel_rfl) rfl rfl rfl rfl rfl rfl (le_ok rfl) rfl) ?_
     refine TL.nil ?_
     refine T.seq ?_
     refine T.region ?_
     refine TL.cons rfl (Step.load_box_agg (n := 5) (qs := [.d (.int .i64 l.f0), .d (.int .i64 l.f1), .d (.int .i64 l.f2), .d (.int .i64 l.f3), .d (.int .i64 l.f4)]) rfl rfl (lt_ok rfl) (by kernel_rfl) rfl rfl rfl rfl) ?_
     refine TL.cons rfl (Step.load_box_agg (n := 10) (qs := [.d (.int .i64 (p.f0.getD i default).f0), .d (.int .i64 (p.f0.getD i default).f1), .d (.int .i64 (p.f0.getD i default).f2), .d (.ints .u8 (p.f0.getD i default).f3), .d (.ints .u8 (p.f0.getD i default).f4), .d (.int .i64 (p.f0.getD i default).f5.f0), .d (.int .i64 (p.f0.getD i default).f5.f1), .d (.ints .u8 (p.f0.getD i default).f5.f2), .d (.ints .u8 (p.f0.getD i default).f5.f3), .d (.bss (p.f0.getD i default).f5.f4)]) rfl rfl (lt_ok rfl) (by kernel_rfl) rfl rfl rfl rfl) ?_
     refine TL.cons rfl (Step.call (f := 104) (xs := [.tmp 26, .tmp 27]) (ps := [(.agg [.d (.int .i64 l.f0), .d (.int .i64 l.f1), .d (.int .i64 l.f2), .d (.int .i64 l.f3), .d (.int .i64 l.f4)]), (.agg [.d (.int .i64 (p.f0.getD i default).f0), .d (.int .i64 (p.f0.getD i default).f1), .d (.int .i64 (p.f0.getD i default).f2), .d (.ints .u8 (p.f0.getD i default).f3), .d (.ints .u8 (p.f0.getD i default).f4), .d (.int .i64 (p.f0.getD i default).f5.f0), .d (.int .i64 (p.f0.getD i default).f5.f1), .d (.ints .u8 (p.f0.getD i default).f5.f2), .d (.ints .u8 (p.f0.getD i default).f5.f3), .d (.bss (p.f0.getD i default).f5.f4)])]) false (g := .func 104) rfl rfl (lt_ok rfl) rfl (by kernel_rfl) rfl (.cons (.agg (.cons (.d _) (.cons (.d _) (.cons (.d _) (.cons (.d _) (.cons (.d _) .nil)))))) (.cons (.agg (.cons (.d _) (.cons (.d _) (.cons (.d _) (.cons (.d _) (.cons (.d _) (.cons (.d _) (.cons (.d _) (.cons (.d _) (.cons (.d _) (.cons (.d _) .nil))))))))))) .nil)) (ok_spec_HeadOk l (p.f0.getD i default) (by first | assumption | exact mem_getD o0 (by omega) | exact mem_getD h0_ (by omega)) (by first | assumption | exact mem_getD s0.2 (by omega) | exact mem_getD h1_ (by omega))) (.inr rfl) rfl (by simp) rfl) ?_
     refine TL.cons rfl (Step.not (b := (headOk l (p.f0.getD i default))) rfl rfl (lt_ok rfl) rfl) ?_
     refine TL.nil ?_
     refine T.cond (b := !(headOk l (p.f0.getD i default))) rfl (fun h5 => ?_) (fun h5 => ?_)
     ·
      replace h5 : (headOk l (p.f0.getD i default)) = false := by simpa only [Bool.not_eq_true', Bool.not_eq_false'] using h5
      refine T.seq ?_
      refine T.region ?_
      refine TL.cons rfl (Step.assign (p := (.one (.d (.bool false)))) rfl rfl (lt_ok rfl) rfl) ?_
      refine TL.nil ?_
      refine T.ret ?_
      exact ⟨[(false, [.d (.bool false)])], (.cons rfl .nil), rfl, [], (RetC.rd' (by (congr 1; symm; first | (unfold proofOk; rw [qcOk_no (q := p.f1) (by assumption)]; simp; done) | (unfold proofOk; rw [decide_eq_false (p := (3 ≤ (p.f0.length : Int) ∧ (p.f0.length : Int) ≤ l.f4)) (by omega)]; simp; done) | (unfold proofOk; rw [headsOk_no (i := i) (by omega) (by assumption)]; simp; done) | (rw [List.take_of_length_le (by omega)] at hx2; unfold proofOk; rw [hx2, decide_eq_true (p := (3 ≤ (p.f0.length : Int) ∧ (p.f0.length : Int) ≤ l.f4)) (by omega)]; simp only [*, Bool.and_true, Bool.true_and, Bool.and_false, Bool.false_and, decide_true, decide_false, and_true, true_and, and_self, and_false, false_and, Bool.and_self, not_true, not_false, Bool.not_true, Bool.not_false, ge_iff_le, gt_iff_lt, if_true, if_false, Bool.false_eq_true, ite_true, ite_false, reduceIte]; done) | (rw [List.take_of_length_le (by omega)] at hx2; unfold proofOk; rw [hx2, decide_eq_true (p := (3 ≤ (p.f0.length : Int) ∧ (p.f0.length : Int) ≤ l.f4)) (by omega)]; simp_all; done))) .nil)⟩
     ·
      replace h5 : (headOk l (p.f0.getD i default)) = true := by simpa only [Bool.not_eq_true', Bool.not_eq_false'] using h5
      refine T.skip ?_
      refine T.region ?_
      refine TL.cons rfl (Step.bin (r := .int .i64 ((i : Int) + 1)) rfl rfl (lt_ok rfl) rfl rfl (Bin.add (a := (i : Int)) (b := 1) (by first | exact wrap_ok (by first | omega | (simp; omega)) (by first | omega | (simp; omega)) | rfl))) ?_
      refine TL.cons rfl (Step.move (p := (.one (.d (.int .i64 ((i : Int) + 1))))) rfl rfl (lt_ok rfl) rfl) ?_
      refine TL.nil ?_
      exact ⟨i + 1, by (refine ⟨by omega, headsOk_step (by omega) hx2 (by assumption)⟩), by first | omega | (dsimp only; omega), Env.le_mk ⟨rfl, rfl, rfl, rfl, by first | rfl | (simp; done) | (congr 3; omega), trivial⟩ trivial ⟨rfl, rfl, trivial⟩⟩
    ·
     replace h4 := of_decide_eq_false h4
     refine T.exit ?_
     refine T.seq ?_
     refine T.region ?_
     refine TL.cons rfl (Step.load_box_agg (n := 5) (qs := [.d (.int .i64 l.f0), .d (.int .i64 l.f1), .d (.int .i64 l.f2), .d (.int .i64 l.f3), .d (.int .i64 l.f4)]) rfl rfl (lt_ok rfl) (by kernel_rfl) rfl rfl rfl rfl) ?_
     refine TL.cons rfl (Step.fieldAddr (q := 0) (off := 1) (n := 5) (one := false) rfl rfl (lt_ok rfl) (by kernel_rfl) (Nat.succ_ne_zero _) rfl) ?_
     refine TL.cons rfl (Step.load_box_agg (n := 5) (qs := [.d (.int .i64 p.f1.f0), .d (.int .i64 p.f1.f1), .d (.ints .u8 p.f1.f2), .d (.ints .u8 p.f1.f3), .d (.bss p.f1.f4)]) rfl rfl (lt_ok rfl) (by kernel_rfl) rfl rfl rfl rfl) ?_
     refine TL.cons rfl (Step.call (f := 123) (xs := [.tmp 31, .tmp 33]) (ps := [(.agg [.d (.int .i64 l.f0), .d (.int .i64 l.f1), .d (.int .i64 l.f2), .d (.int .i64 l.f3), .d (.int .i64 l.f4)]), (.agg [.d (.int .i64 p.f1.f0), .d (.int .i64 p.f1.f1), .d (.ints .u8 p.f1.f2), .d (.ints .u8 p.f1.f3), .d (.bss p.f1.f4)])]) false (g := .func 123) rfl rfl (lt_ok rfl) rfl (by kernel_rfl) rfl (.cons (.agg (.cons (.d _) (.cons (.d _) (.cons (.d _) (.cons (.d _) (.cons (.d _) .nil)))))) (.cons (.agg (.cons (.d _) (.cons (.d _) (.cons (.d _) (.cons (.d _) (.cons (.d _) .nil)))))) .nil)) (ok_spec_QcOk l p.f1 (by assumption) (by assumption)) (.inr rfl) rfl (by simp) rfl) ?_
     refine TL.cons rfl (Step.move (p := (.one (.d (.bool (qcOk l p.f1))))) rfl rfl (lt_ok rfl) rfl) ?_
     rcases Bool.eq_false_or_eq_true (qcOk l p.f1) with hb6 | hb6
     ·
      refine TL.known 35 hb6 rfl ?_
      refine TL.gyes 35 rfl rfl (lt_ok rfl) rfl (Step.load_box_agg (n := 6) (qs := [.d (.sl 10 (p.f0.map SHead.cells)), .d (.int .i64 p.f1.f0), .d (.int .i64 p.f1.f1), .d (.ints .u8 p.f1.f2), .d (.ints .u8 p.f1.f3), .d (.bss p.f1.f4)]) rfl rfl (lt_ok rfl) (by kernel_rfl) rfl rfl rfl rfl) ?_
      refine TL.gyes 35 rfl rfl (lt_ok rfl) rfl (Step.call (f := 124) (xs := [.tmp 36]) (ps := [(.agg [.d (.sl 10 (p.f0.map SHead.cells)), .d (.int .i64 p.f1.f0), .d (.int .i64 p.f1.f1), .d (.ints .u8 p.f1.f2), .d (.ints .u8 p.f1.f3), .d (.bss p.f1.f4)])]) false (g := .func 124) rfl rfl (lt_ok rfl) rfl (by kernel_rfl) rfl (.cons (.agg (.cons (.d _) (.cons (.d _) (.cons (.d _) (.cons (.d _) (.cons (.d _) (.cons (.d _) .nil))))))) .nil) (ok_spec_l16Fits p (by first | omega | assumption) (by first | exact s0.1 | omega)) (.inr rfl) rfl (by simp) rfl) ?_
      refine TL.cons rfl (Step.pick (b := true) (p := (.one (.d (.bool (closes p))))) rfl rfl (lt_ok rfl) rfl rfl) ?_
      refine TL.cons rfl (Step.assign (p := (.one (.d (.bool (closes p))))) rfl rfl (lt_ok rfl) rfl) ?_
      refine TL.nil ?_
      refine T.ret ?_
      exact ⟨[(false, [.d (.bool (closes p))])], (.cons rfl .nil), rfl, [], (RetC.rd' (by (congr 1; symm; first | (unfold proofOk; rw [qcOk_no (q := p.f1) (by assumption)]; simp; done) | (unfold proofOk; rw [decide_eq_false (p := (3 ≤ (p.f0.length : Int) ∧ (p.f0.length : Int) ≤ l.f4)) (by omega)]; simp; done) | (unfold proofOk; rw [headsOk_no (i := i) (by omega) (by assumption)]; simp; done) | (rw [List.take_of_length_le (by omega)] at hx2; unfold proofOk; rw [hx2, decide_eq_true (p := (3 ≤ (p.f0.length : Int) ∧ (p.f0.length : Int) ≤ l.f4)) (by omega)]; simp only [*, Bool.and_true, Bool.true_and, Bool.and_false, Bool.false_and, decide_true, decide_false, and_true, true_and, and_self, and_false, false_and, Bool.and_self, not_true, not_false, Bool.not_true, Bool.not_false, ge_iff_le, gt_iff_lt, if_true, if_false, Bool.false_eq_true, ite_true, ite_false, reduceIte]; done) | (rw [List.take_of_length_le (by omega)] at hx2; unfold proofOk; rw [hx2, decide_eq_true (p := (3 ≤ (p.f0.length : Int) ∧ (p.f0.length : Int) ≤ l.f4)) (by omega)]; simp_all; done))) .nil)⟩
     ·
      refine TL.known 35 hb6 rfl ?_
      refine TL.goff 35 rfl rfl (lt_ok rfl) rfl rfl rfl (lt_ok rfl) ?_
      refine TL.goff 35 rfl rfl (lt_ok rfl) rfl rfl rfl (lt_ok rfl) ?_
      refine TL.cons rfl (Step.pick (b := false) (p := (.one (.d (.bool false)))) rfl rfl (lt_ok rfl) rfl rfl) ?_
      refine TL.cons rfl (Step.assign (p := (.one (.d (.bool false)))) rfl rfl (lt_ok rfl) rfl) ?_
      refine TL.nil ?_
      refine T.ret ?_
      exact ⟨[(false, [.d (.bool false)])], (.cons rfl .nil), rfl, [], (RetC.rd' (by (congr 1; symm; first | (unfold proofOk; rw [qcOk_no (q := p.f1) (by assumption)]; simp; done) | (unfold proofOk; rw [decide_eq_false (p := (3 ≤ (p.f0.length : Int) ∧ (p.f0.length : Int) ≤ l.f4)) (by omega)]; simp; done) | (unfold proofOk; rw [headsOk_no (i := i) (by omega) (by assumption)]; simp; done) | (rw [List.take_of_length_le (by omega)] at hx2; unfold proofOk; rw [hx2, decide_eq_true (p := (3 ≤ (p.f0.length : Int) ∧ (p.f0.length : Int) ≤ l.f4)) (by omega)]; simp only [*, Bool.and_true, Bool.true_and, Bool.and_false, Bool.false_and, decide_true, decide_false, and_true, true_and, and_self, and_false, false_and, Bool.and_self, not_true, not_false, Bool.not_true, Bool.not_false, ge_iff_le, gt_iff_lt, if_true, if_false, Bool.false_eq_true, ite_true, ite_false, reduceIte]; done) | (rw [List.take_of_length_le (by omega)] at hx2; unfold proofOk; rw [hx2, decide_eq_true (p := (3 ≤ (p.f0.length : Int) ∧ (p.f0.length : Int) ≤ l.f4)) (by omega)]; simp_all; done))) .nil)⟩
theorem ok_spec_l01Copy (a : List Int) (h0_ : a.length ≤ 17592186044416) : RO Try.prog 160 [.one (.ints .u8 a)] [(false, [.own 5 (.ints .u8 a)])] := by
 refine RO.intro Try.func160 rfl 6 rfl (le_ok rfl) fun w Z => ?_
 refine T.bnd 0 0 rfl rfl fun hb_0_0 => ?_
 simp only [D.size, List.length_map] at hb_0_0
 refine T.seq ?_
 refine T.region ?_
 refine TL.cons rfl (Step.assign (p := (.one (.nil))) rfl rfl (lt_ok rfl) rfl) ?_
 refine TL.nil ?_
 refine T.seq ?_
 refine T.region ?_
 refine TL.cons rfl (Step.lit (e := 5) (z := 1) (by_ := 1) (xs := []) (pss := []) (es := []) (ss := []) (d := (.ints .u8 [])) rfl rfl (lt_ok rfl) (by kernel_rfl) rfl rfl .nil (by simp) (le_ok rfl) (le_ok rfl) rfl .nil rfl (by simp) (by simp) rfl trivial rfl rfl) ?_
 refine TL.cons rfl (Step.move (p := (.one (.d (.ints .u8 a)))) rfl rfl (lt_ok rfl) rfl) ?_
 refine TL.cons rfl (Step.append (e := 5) (z := 1) (by_ := 1) (d := (.ints .u8 [])) (dy := (.ints .u8 a)) (d' := (.ints .u8 ([] ++ a))) (ss := []) rfl rfl (lt_ok rfl) (by kernel_rfl) rfl rfl rfl (lt_ok rfl) rfl (.froz rfl (by simp [D.flat, D.val])) (by simp) rfl (by simp only [D.size, List.length_map]; first | omega | (simp; omega) | (simp only [List.length_append] at *; omega)) (by simp only [D.size, List.length_map]; first | omega | (simp; omega) | (simp only [List.length_append] at *; omega)) (by simp)) ?_
 refine TL.cons rfl (Step.assign (p := (.one (.row 3 []))) rfl rfl (lt_ok rfl) rfl) ?_
 refine TL.nil ?_
 refine T.ret ?_
 exact ⟨[(false, [.row 3 []])], (.cons rfl .nil), rfl, [3], (RetC.own' rfl (by rfl) rfl .nil)⟩
theorem ok_spec_PutVar (b : List Int) (n : Int) (h0_ : b.length ≤ 17592186044416) : RO Try.prog 125 [.one (.ints .u8 b), .one (.int .i64 n)] [(false, [.own 5 (.ints .u8 (putVar b n))]), (false, [.rd (.bool (decide (0 ≤ n ∧ n ≤ 1152921504606846975)))])] := by
 refine RO.intro Try.func125 rfl 28 rfl (le_ok rfl) fun w Z => ?_
 refine T.bnd 0 0 rfl rfl fun hb_0_0 => ?_
 simp only [D.size, List.length_map] at hb_0_0
 refine T.seq ?_
 refine T.region ?_
 refine TL.cons rfl (Step.assign (p := (.one (.nil))) rfl rfl (lt_ok rfl) rfl) ?_
 refine TL.cons rfl (Step.assign (p := (.one (.d (.bool false)))) rfl rfl (lt_ok rfl) rfl) ?_
 refine TL.nil ?_
 refine T.seq ?_
 refine T.seq ?_
 refine T.region ?_
 refine TL.cons rfl (Step.move (p := (.one (.d (.int .i64 n)))) rfl rfl (lt_ok rfl) rfl) ?_
 refine TL.cons rfl (Step.call (f := 153) (xs := [.tmp 7]) (ps := [(.one (.d (.int .i64 n)))]) false (g := .func 153) rfl rfl (lt_ok rfl) rfl (by kernel_rfl) rfl (.cons (.one (.d _)) .nil) (ok_spec_l01Num n) (.inr rfl) rfl (by simp) rfl) ?_
 refine TL.cons rfl (Step.not (b := (decide (0 ≤ n ∧ n ≤ 1152921504606846975))) rfl rfl (lt_ok rfl) rfl) ?_
 refine TL.nil ?_
 refine T.cond (b := !(decide (0 ≤ n ∧ n ≤ 1152921504606846975))) rfl (fun h1 => ?_) (fun h1 => ?_)
 ·
  replace h1 : (decide (0 ≤ n ∧ n ≤ 1152921504606846975)) = false := by simpa only [Bool.not_eq_true', Bool.not_eq_false'] using h1
  replace h1 := of_decide_eq_false h1
  refine T.seq ?_
  refine T.region ?_
  refine TL.cons rfl (Step.assign (p := (.one (.nil))) rfl rfl (lt_ok rfl) rfl) ?_
  refine TL.cons rfl (Step.assign (p := (.one (.d (.bool false)))) rfl rfl (lt_ok rfl) rfl) ?_
  refine TL.nil ?_
  refine T.ret ?_
  exact ⟨[(false, [.nil]), (false, [.d (.bool false)])], (.cons rfl (.cons rfl .nil)), rfl, [], (RetC.nilown' rfl (by first | rfl | (congr 1; unfold putVar; rw [if_pos (decide_eq_true (by assumption))]; rw [← hx3, varW_last (n := m) (by omega)]; done) | (show (putVar b n).length = 0; rw [putVar, if_neg (by rw [decide_eq_true_eq]; assumption)]; rfl) | (congr 1; symm; first | exact decide_eq_true ‹_› | exact decide_eq_false ‹_›)) (by first | exact trivial | exact D.wf_nil _) (RetC.rd' (by first | rfl | (congr 1; unfold putVar; rw [if_pos (decide_eq_true (by assumption))]; rw [← hx3, varW_last (n := m) (by omega)]; done) | (show (putVar b n).length = 0; rw [putVar, if_neg (by rw [decide_eq_true_eq]; assumption)]; rfl) | (congr 1; symm; first | exact decide_eq_true ‹_› | exact decide_eq_false ‹_›)) .nil))⟩
 ·
  replace h1 : (decide (0 ≤ n ∧ n ≤ 1152921504606846975)) = true := by simpa only [Bool.not_eq_true', Bool.not_eq_false'] using h1
  replace h1 := of_decide_eq_true h1
  refine T.skip ?_
  refine T.seq ?_
  refine T.region ?_
  refine TL.cons rfl (Step.move (p := (.one (.d (.ints .u8 b)))) rfl rfl (lt_ok rfl) rfl) ?_
  refine TL.cons rfl (Step.call (f := 160) (xs := [.tmp 10]) (ps := [(.one (.d (.ints .u8 b)))]) false (g := .func 160) rfl rfl (lt_ok rfl) rfl (by kernel_rfl) rfl (.cons (.one (.d _)) .nil) (ok_spec_l01Copy b (by first | omega | assumption)) (.inr rfl) rfl (by simp) rfl) ?_
  refine TL.cons rfl (Step.assign (p := (.one (.row 1011 []))) rfl rfl (lt_ok rfl) rfl) ?_
  refine TL.nil ?_
  refine T.seq ?_
  refine T.block ?_
  refine T.loop (ι := (List Int) × Int) (fun xx_ => { tm := [(4, (.one (.nil))), (5, (.one (.d (.bool false)))), (1, (.one (.d (.int .i64 (xx_.2))))), (6, (.one (.row 1011 [])))], rows := [(1011, (5, (.ints .u8 (xx_.1))))], boxes := [] }) (fun xx_ => 0 ≤ (xx_.2) ∧ (xx_.2) ≤ 1152921504606846975 ∧ (xx_.1) ++ varW (xx_.2) = b ++ varW n ∧ (xx_.1).length ≤ b.length + 9) (fun xx_ => (xx_.2).toNat) (b, n) ?_ ?_ ?_
  · exact Env.le_mk ⟨rfl, rfl, by first | rfl | (refine congrArg (fun x => some (_, D.ints .u8 x)) ?_; rfl), rfl, trivial⟩ ⟨by first | rfl | (refine congrArg (fun x => some (_, D.ints .u8 x)) ?_; rfl), trivial⟩ trivial
  · (dsimp only; refine ⟨by omega, by omega, rfl, by omega⟩)
  ·
   intro xx_ hx
   obtain ⟨o, m⟩ := xx_
   try dsimp only at hx ⊢
   obtain ⟨hx1, hx2, hx3, hx4⟩ := hx
   refine T.seq ?_
   refine T.seq ?_
   refine T.region ?_
   refine TL.cons rfl (Step.move (p := (.one (.d (.int .i64 m)))) rfl rfl (lt_ok rfl) rfl) ?_
   refine TL.cons rfl (Step.bin rfl rfl (lt_ok rfl) rfl rfl (Bin.gtr (k := .i64) (a := m) (b := 127))) ?_
   refine TL.nil ?_
   refine T.cond (b := decide (127 < m)) rfl (fun h2 => ?_) (fun h2 => ?_)
   ·
    replace h2 := of_decide_eq_true h2
    refine T.skip ?_
    refine T.block ?_
    refine T.seq ?_
    refine T.region ?_
    refine TL.cons rfl (Step.move (p := (.one (.row 1011 []))) rfl rfl (lt_ok rfl) rfl) ?_
    refine TL.cons rfl (Step.move (p := (.one (.d (.int .i64 m)))) rfl rfl (lt_ok rfl) rfl) ?_
    refine TL.cons rfl (Step.bin (r := .int .i64 (m % 128)) rfl rfl (lt_ok rfl) rfl rfl (Bin.rem (k := .i64) (a := m) (b := 128) (by decide) (Int.tmod_eq_emod_of_nonneg (by first | omega | (simp; omega))))) ?_
    refine TL.cons rfl (Step.bin (r := .int .i64 (128 + (m % 128))) rfl rfl (lt_ok rfl) rfl rfl (Bin.add (a := 128) (b := (m % 128)) (by first | exact wrap_ok (by first | omega | (simp; omega)) (by first | omega | (simp; omega)) | rfl))) ?_
    refine TL.cons rfl (Step.conv (c := (128 + (m % 128))) rfl rfl (lt_ok rfl) (by kernel_rfl) (by kernel_rfl) rfl (wrap_u8 (by first | omega | (simp; omega)) (by first | omega | (simp; omega)))) ?_
    refine TL.cons rfl (Step.lit (e := 5) (z := 1) (by_ := 1) (xs := [.tmp 18]) (pss := [[.d (.int .u8 (128 + (m % 128)))]]) (es := [(.int .u8 (128 + (m % 128)))]) (ss := []) (d := (.ints .u8 [128 + (m % 128)])) rfl rfl (lt_ok rfl) (by kernel_rfl) rfl rfl (.cons rfl .nil) (by simp) (le_ok rfl) (le_ok rfl) rfl (.val rfl .nil) rfl (by simp) (by simp) rfl trivial rfl rfl) ?_
    refine TL.cons rfl (Step.append (e := 5) (z := 1) (by_ := 1) (d := (.ints .u8 o)) (dy := (.ints .u8 [128 + (m % 128)])) (d' := (.ints .u8 (o ++ [128 + (m % 128)]))) (ss := []) rfl rfl (lt_ok rfl) (by kernel_rfl) rfl rfl rfl (lt_ok rfl) rfl (.copy rfl rfl rfl (by simp [D.flat, D.val])) (by simp) rfl (by simp only [D.size, List.length_map]; first | omega | (simp; omega) | (simp only [List.length_append] at *; omega)) (by simp only [D.size, List.length_map]; first | omega | (simp; omega) | (simp only [List.length_append] at *; omega)) (by simp)) ?_
    refine TL.cons rfl (Step.assign (p := (.one (.row 1011 []))) rfl rfl (lt_ok rfl) rfl) ?_
    refine TL.nil ?_
    refine T.region ?_
    refine TL.cons rfl (Step.move (p := (.one (.d (.int .i64 m)))) rfl rfl (lt_ok rfl) rfl) ?_
    refine TL.cons rfl (Step.bin (r := .int .i64 (m / 128)) rfl rfl (lt_ok rfl) rfl rfl (Bin.quo (k := .i64) (a := m) (b := 128) (by decide) (by rw [Int.tdiv_eq_ediv_of_nonneg (by first | omega | (simp; omega))]; exact wrap_ok (by first | omega | (simp; omega)) (by first | omega | (simp; omega))))) ?_
    refine TL.cons rfl (Step.assign (p := (.one (.d (.int .i64 (m / 128))))) rfl rfl (lt_ok rfl) rfl) ?_
    refine TL.nil ?_
    exact ⟨(o ++ [128 + (m % 128)], m / 128), by (refine ⟨by omega, by omega, by rw [← hx3, varW_next (n := m) (by omega)]; simp [Int.add_comm], ?_⟩; have e_ := congrArg List.length hx3; rw [varW_next (n := m) (by omega)] at e_; have := varW_len9 (n := n) (by omega); simp only [List.length_append, List.length_cons, List.length_nil] at e_ ⊢; omega), by (dsimp only; omega), Env.le_mk ⟨rfl, rfl, by first | rfl | (refine congrArg (fun x => some (_, D.ints .u8 x)) ?_; rfl), rfl, trivial⟩ ⟨by first | rfl | (refine congrArg (fun x => some (_, D.ints .u8 x)) ?_; rfl), trivial⟩ trivial⟩
   ·
    replace h2 := of_decide_eq_false h2
    refine T.exit ?_
    refine T.seq ?_
    refine T.region ?_
    refine TL.cons rfl (Step.move (p := (.one (.row 1011 []))) rfl rfl (lt_ok rfl) rfl) ?_
    refine TL.cons rfl (Step.move (p := (.one (.d (.int .i64 m)))) rfl rfl (lt_ok rfl) rfl) ?_
    refine TL.cons rfl (Step.conv (c := m) rfl rfl (lt_ok rfl) (by kernel_rfl) (by kernel_rfl) rfl (wrap_u8 (by first | omega | (simp; omega)) (by first | omega | (simp; omega)))) ?_
    refine TL.cons rfl (Step.lit (e := 5) (z := 1) (by_ := 1) (xs := [.tmp 25]) (pss := [[.d (.int .u8 m)]]) (es := [(.int .u8 m)]) (ss := []) (d := (.ints .u8 [m])) rfl rfl (lt_ok rfl) (by kernel_rfl) rfl rfl (.cons rfl .nil) (by simp) (le_ok rfl) (le_ok rfl) rfl (.val rfl .nil) rfl (by simp) (by simp) rfl trivial rfl rfl) ?_
    refine TL.cons rfl (Step.append (e := 5) (z := 1) (by_ := 1) (d := (.ints .u8 o)) (dy := (.ints .u8 [m])) (d' := (.ints .u8 (o ++ [m]))) (ss := []) rfl rfl (lt_ok rfl) (by kernel_rfl) rfl rfl rfl (lt_ok rfl) rfl (.copy rfl rfl rfl (by simp [D.flat, D.val])) (by simp) rfl (by simp only [D.size, List.length_map]; first | omega | (simp; omega) | (simp only [List.length_append] at *; omega)) (by simp only [D.size, List.length_map]; first | omega | (simp; omega) | (simp only [List.length_append] at *; omega)) (by simp)) ?_
    refine TL.cons rfl (Step.assign (p := (.one (.row 1011 []))) rfl rfl (lt_ok rfl) rfl) ?_
    refine TL.cons rfl (Step.assign (p := (.one (.d (.bool true)))) rfl rfl (lt_ok rfl) rfl) ?_
    refine TL.nil ?_
    refine T.ret ?_
    exact ⟨[(false, [.row 1011 []]), (false, [.d (.bool true)])], (.cons rfl (.cons rfl .nil)), rfl, [1011], (RetC.own' rfl (by first | rfl | (congr 1; unfold putVar; rw [if_pos (decide_eq_true (by assumption))]; rw [← hx3, varW_last (n := m) (by omega)]; done) | (show (putVar b n).length = 0; rw [putVar, if_neg (by rw [decide_eq_true_eq]; assumption)]; rfl) | (congr 1; symm; first | exact decide_eq_true ‹_› | exact decide_eq_false ‹_›)) rfl (RetC.rd' (by first | rfl | (congr 1; unfold putVar; rw [if_pos (decide_eq_true (by assumption))]; rw [← hx3, varW_last (n := m) (by omega)]; done) | (show (putVar b n).length = 0; rw [putVar, if_neg (by rw [decide_eq_true_eq]; assumption)]; rfl) | (congr 1; symm; first | exact decide_eq_true ‹_› | exact decide_eq_false ‹_›)) .nil))⟩
theorem ok_spec_l11Num (b : List Int) (n : Int) (h0_ : b.length ≤ 17592186044416) : RO Try.prog 70 [.one (.ints .u8 b), .one (.int .i64 n)] [(false, [.own 5 (.ints .u8 (putVar b n))])] := by
 refine RO.intro Try.func70 rfl 14 rfl (le_ok rfl) fun w Z => ?_
 refine T.bnd 0 0 rfl rfl fun hb_0_0 => ?_
 simp only [D.size, List.length_map] at hb_0_0
 refine T.seq ?_
 refine T.region ?_
 refine TL.cons rfl (Step.assign (p := (.one (.nil))) rfl rfl (lt_ok rfl) rfl) ?_
 refine TL.nil ?_
 refine T.seq ?_
 refine T.region ?_
 refine TL.cons rfl (Step.move (p := (.one (.d (.ints .u8 b)))) rfl rfl (lt_ok rfl) rfl) ?_
 refine TL.cons rfl (Step.move (p := (.one (.d (.int .i64 n)))) rfl rfl (lt_ok rfl) rfl) ?_
 have nn1 := putVar_len b n
 refine TL.cons rfl (Step.call (f := 125) (xs := [.tmp 8, .tmp 9]) (ps := [(.one (.d (.ints .u8 b))), (.one (.d (.int .i64 n)))]) false (g := .func 125) rfl rfl (lt_ok rfl) rfl (by kernel_rfl) rfl (.cons (.one (.d _)) (.cons (.one (.d _)) .nil)) (ok_spec_PutVar b n (by first | omega | assumption | (simp only [List.length_append] at *; omega))) (.inr rfl) rfl (by simp) rfl) ?_
 refine TL.cons rfl (Step.move (p := (.tup [(false, [.row 1010 []]), (false, [.d (.bool (decide (0 ≤ n ∧ n ≤ 1152921504606846975)))])])) rfl rfl (lt_ok rfl) rfl) ?_
 refine TL.cons rfl (Step.extract (p := (.one (.row 1010 []))) rfl rfl (lt_ok rfl) rfl rfl) ?_
 refine TL.cons rfl (Step.extract (p := (.one (.d (.bool (decide (0 ≤ n ∧ n ≤ 1152921504606846975)))))) rfl rfl (lt_ok rfl) rfl rfl) ?_
 refine TL.cons rfl (Step.assign (p := (.one (.row 1010 []))) rfl rfl (lt_ok rfl) rfl) ?_
 refine TL.cons rfl (Step.assign (p := (.one (.d (.bool (decide (0 ≤ n ∧ n ≤ 1152921504606846975)))))) rfl rfl (lt_ok rfl) rfl) ?_
 refine TL.nil ?_
 refine T.seq ?_
 refine T.region ?_
 refine TL.cons rfl (Step.move (p := (.one (.row 1010 []))) rfl rfl (lt_ok rfl) rfl) ?_
 refine TL.cons rfl (Step.assign (p := (.one (.row 1010 []))) rfl rfl (lt_ok rfl) rfl) ?_
 refine TL.nil ?_
 refine T.ret ?_
 exact ⟨[(false, [.row 1010 []])], (.cons rfl .nil), rfl, [1010], (RetC.own' rfl (by rfl) rfl .nil)⟩
theorem ok_spec_PutQc (l : SLimits) (b : List Int) (q : SQc) (h0_ : b.length ≤ 8796093022208) (h1_ : q.ok) (h2_ : q.sm) : RO Try.prog 72 [.agg l.cells, .one (.ints .u8 b), .agg q.cells] [(false, [.own 5 (.ints .u8 (putQc l b q))]), (false, [.rd (.bool (qcOk l q))])] := by
 refine RO.intro Try.func72 rfl 41 rfl (le_ok rfl) fun w Z => ?_
 refine T.bnd 1 0 rfl rfl fun hb_1_0 => ?_
 simp only [D.size, List.length_map] at hb_1_0
 refine T.bnd 2 2 rfl rfl fun hb_2_2 => ?_
 simp only [D.size, List.length_map] at hb_2_2
 refine T.bnd 2 3 rfl rfl fun hb_2_3 => ?_
 simp only [D.size, List.length_map] at hb_2_3
 refine T.bnd 2 4 rfl rfl fun hb_2_4 => ?_
 simp only [D.size, List.length_map] at hb_2_4
 have hsm_ := h2_
 obtain ⟨s0, s1, s2⟩ := h2_
 refine T.seq ?_
 refine T.region ?_
 refine TL.cons rfl (Step.box (p := (.agg [.d (.int .i64 l.f0), .d (.int .i64 l.f1), .d (.int .i64 l.f2), .d (.int .i64 l.f3), .d (.int .i64 l.f4)])) (ps := [.d (.int .i64 l.f0), .d (.int .i64 l.f1), .d (.int .i64 l.f2), .d (.int .i64 l.f3), .d (.int .i64 l.f4)]) rfl rfl (lt_ok rfl) rfl rfl rfl rfl rfl) ?_
 refine TL.cons rfl (Step.box (p := (.agg [.d (.int .i64 q.f0), .d (.int .i64 q.f1), .d (.ints .u8 q.f2), .d (.ints .u8 q.f3), .d (.bss q.f4)])) (ps := [.d (.int .i64 q.f0), .d (.int .i64 q.f1), .d (.ints .u8 q.f2), .d (.ints .u8 q.f3), .d (.bss q.f4)]) rfl rfl (lt_ok rfl) rfl rfl rfl rfl rfl) ?_
 refine TL.cons rfl (Step.assign (p := (.one (.nil))) rfl rfl (lt_ok rfl) rfl) ?_
 refine TL.cons rfl (Step.assign (p := (.one (.d (.bool false)))) rfl rfl (lt_ok rfl) rfl) ?_
 refine TL.nil ?_
 refine T.seq ?_
 refine T.seq ?_
 refine T.region ?_
 refine TL.cons rfl (Step.load_box_agg (n := 5) (qs := [.d (.int .i64 l.f0), .d (.int .i64 l.f1), .d (.int .i64 l.f2), .d (.int .i64 l.f3), .d (.int .i64 l.f4)]) rfl rfl (lt_ok rfl) (by kernel_rfl) rfl rfl rfl rfl) ?_
 refine TL.cons rfl (Step.load_box_agg (n := 5) (qs := [.d (.int .i64 q.f0), .d (.int .i64 q.f1), .d (.ints .u8 q.f2), .d (.ints .u8 q.f3), .d (.bss q.f4)]) rfl rfl (lt_ok rfl) (by kernel_rfl) rfl rfl rfl rfl) ?_
 refine TL.cons rfl (Step.call (f := 123) (xs := [.tmp 11, .tmp 12]) (ps := [(.agg [.d (.int .i64 l.f0), .d (.int .i64 l.f1), .d (.int .i64 l.f2), .d (.int .i64 l.f3), .d (.int .i64 l.f4)]), (.agg [.d (.int .i64 q.f0), .d (.int .i64 q.f1), .d (.ints .u8 q.f2), .d (.ints .u8 q.f3), .d (.bss q.f4)])]) false (g := .func 123) rfl rfl (lt_ok rfl) rfl (by kernel_rfl) rfl (.cons (.agg (.cons (.d _) (.cons (.d _) (.cons (.d _) (.cons (.d _) (.cons (.d _) .nil)))))) (.cons (.agg (.cons (.d _) (.cons (.d _) (.cons (.d _) (.cons (.d _) (.cons (.d _) .nil)))))) .nil)) (ok_spec_QcOk l q (by assumption) (by assumption)) (.inr rfl) rfl (by simp) rfl) ?_
 refine TL.cons rfl (Step.not (b := (qcOk l q)) rfl rfl (lt_ok rfl) rfl) ?_
 refine TL.nil ?_
 refine T.cond (b := !(qcOk l q)) rfl (fun h1 => ?_) (fun h1 => ?_)
 ·
  replace h1 : (qcOk l q) = false := by simpa only [Bool.not_eq_true', Bool.not_eq_false'] using h1
  refine T.seq ?_
  refine T.region ?_
  refine TL.cons rfl (Step.assign (p := (.one (.nil))) rfl rfl (lt_ok rfl) rfl) ?_
  refine TL.cons rfl (Step.assign (p := (.one (.d (.bool false)))) rfl rfl (lt_ok rfl) rfl) ?_
  refine TL.nil ?_
  refine T.ret ?_
  exact ⟨[(false, [.nil]), (false, [.d (.bool false)])], (.cons rfl (.cons rfl .nil)), rfl, [], (RetC.nilown' rfl (by first | rfl | (congr 1; unfold putQc putQcB rawsB; rw [if_pos (by assumption), foldl_all _ _ _ i (by omega)]) | (show (putQc l b q).length = 0; unfold putQc; rw [if_neg (by simp [*])]; rfl) | (congr 1; symm; assumption)) (by first | exact trivial | exact D.wf_nil _) (RetC.rd' (by first | rfl | (congr 1; unfold putQc putQcB rawsB; rw [if_pos (by assumption), foldl_all _ _ _ i (by omega)]) | (show (putQc l b q).length = 0; unfold putQc; rw [if_neg (by simp [*])]; rfl) | (congr 1; symm; assumption)) .nil))⟩
 ·
  replace h1 : (qcOk l q) = true := by simpa only [Bool.not_eq_true', Bool.not_eq_false'] using h1
  refine T.skip ?_
  refine T.seq ?_
  have nn2 := putVar_len b q.f0
  have nn3 := putVar_len (putVar b q.f0) q.f1
  refine T.draw [⟨15, (.one (.d (.ints .u8 b))), []⟩, ⟨16, (.one (.ptr 5 0)), []⟩, ⟨17, (.one (.d (.int .i64 q.f0))), []⟩, ⟨18, (.one (.row 1018 [])), [(1018, (5, (.ints .u8 (putVar b q.f0))))]⟩, ⟨19, (.one (.ptr 5 1)), []⟩, ⟨20, (.one (.d (.int .i64 q.f1))), []⟩, ⟨21, (.one (.row 1021 [])), [(1021, (5, (.ints .u8 (putVar (putVar b q.f0) q.f1))))]⟩, ⟨22, (.one (.ptr 5 2)), []⟩, ⟨23, (.one (.d (.ints .u8 q.f2))), []⟩] (by kernel_rfl) (by kernel_rfl) ?_ ?_
  ·
   refine .cons (fun E hA_ => by have g1 := hA_.get 1 (by decide); exact OpStep.plain rfl (Step.move (p := (.one (.d (.ints .u8 b)))) (t := 15) rfl rfl (by exact lt_ok rfl) (show Env.ev E (.tmp 1) = _ from g1.trans rfl))) ?_
   refine .cons (fun E hA_ => by have g5 := hA_.get 5 (by decide); exact OpStep.plain rfl (Step.fieldAddr (q := 0) (off := 0) (n := 1) (one := true) (t := 16) rfl rfl (by exact lt_ok rfl) (by kernel_rfl) (Nat.succ_ne_zero _) (show Env.ev E (.tmp 5) = _ from g5.trans rfl))) ?_
   refine .cons (fun E hA_ => by have g16 := hA_.get 16 (by decide); exact OpStep.plain rfl (Step.load_box (c := .d (.int .i64 q.f0)) (t := 17) rfl rfl (by exact lt_ok rfl) (by kernel_rfl) (show Env.ev E (.tmp 16) = _ from g16.trans rfl) (by exact hA_.box rfl) rfl)) ?_
   refine .cons (fun E hA_ => by have g15 := hA_.get 15 (by decide); have g17 := hA_.get 17 (by decide); exact OpStep.plain rfl (Step.call (f := 70) (xs := [.tmp 15, .tmp 17]) (ps := [(.one (.d (.ints .u8 b))), (.one (.d (.int .i64 q.f0)))]) false (g := .func 70) (t := 18) rfl rfl (by exact lt_ok rfl) rfl (by kernel_rfl) (evs_cons (show Env.ev E (.tmp 15) = _ from g15.trans rfl) (evs_cons (show Env.ev E (.tmp 17) = _ from g17.trans rfl) (rfl))) (.cons (.one (.d _)) (.cons (.one (.d _)) .nil)) (ok_spec_l11Num b q.f0 (by first | omega | assumption | (simp only [List.length_append] at *; omega))) (.inr rfl) (At.freshRows hA_ rfl) (by simp) rfl)) ?_
   refine .cons (fun E hA_ => by have g5 := hA_.get 5 (by decide); exact OpStep.plain rfl (Step.fieldAddr (q := 0) (off := 1) (n := 1) (one := true) (t := 19) rfl rfl (by exact lt_ok rfl) (by kernel_rfl) (Nat.succ_ne_zero _) (show Env.ev E (.tmp 5) = _ from g5.trans rfl))) ?_
   refine .cons (fun E hA_ => by have g19 := hA_.get 19 (by decide); exact OpStep.plain rfl (Step.load_box (c := .d (.int .i64 q.f1)) (t := 20) rfl rfl (by exact lt_ok rfl) (by kernel_rfl) (show Env.ev E (.tmp 19) = _ from g19.trans rfl) (by exact hA_.box rfl) rfl)) ?_
   refine .cons (fun E hA_ => by have g18 := hA_.get 18 (by decide); have g20 := hA_.get 20 (by decide); exact OpStep.plain rfl (Step.call (f := 70) (xs := [.tmp 18, .tmp 20]) (ps := [(.one (.row 1018 [])), (.one (.d (.int .i64 q.f1)))]) false (g := .func 70) (t := 21) rfl rfl (by exact lt_ok rfl) rfl (by kernel_rfl) (evs_cons (show Env.ev E (.tmp 18) = _ from g18.trans rfl) (evs_cons (show Env.ev E (.tmp 20) = _ from g20.trans rfl) (rfl))) (.cons (.one (.row rfl (by exact (hA_.row 1018 (by kernel_rfl)).trans rfl) rfl rfl)) (.cons (.one (.d _)) .nil)) (ok_spec_l11Num (putVar b q.f0) q.f1 (by first | omega | assumption | (simp only [List.length_append] at *; omega))) (.inr rfl) (At.freshRows hA_ rfl) (by simp) rfl)) ?_
   refine .cons (fun E hA_ => by have g5 := hA_.get 5 (by decide); exact OpStep.plain rfl (Step.fieldAddr (q := 0) (off := 2) (n := 1) (one := true) (t := 22) rfl rfl (by exact lt_ok rfl) (by kernel_rfl) (Nat.succ_ne_zero _) (show Env.ev E (.tmp 5) = _ from g5.trans rfl))) ?_
   refine .cons (fun E hA_ => by have g22 := hA_.get 22 (by decide); exact OpStep.plain rfl (Step.load_box (c := .d (.ints .u8 q.f2)) (t := 23) rfl rfl (by exact lt_ok rfl) (by kernel_rfl) (show Env.ev E (.tmp 22) = _ from g22.trans rfl) (by exact hA_.box rfl) rfl)) ?_
   exact .nil _ _
  refine TL.cons rfl (Step.append (e := 5) (z := 1) (by_ := 1) (d := (.ints .u8 (putVar (putVar b q.f0) q.f1))) (dy := (.ints .u8 q.f2)) (d' := (.ints .u8 ((putVar (putVar b q.f0) q.f1) ++ q.f2))) (ss := []) rfl rfl (lt_ok rfl) (by kernel_rfl) rfl rfl rfl (lt_ok rfl) rfl (.froz rfl (by simp [D.flat, D.val])) (by simp) rfl (by simp only [D.size, List.length_map]; first | omega | (simp; omega) | (simp only [List.length_append] at *; omega)) (by simp only [D.size, List.length_map]; first | omega | (simp; omega) | (simp only [List.length_append] at *; omega)) (by simp)) ?_
  refine TL.cons rfl (Step.assign (p := (.one (.row 1021 []))) rfl rfl (lt_ok rfl) rfl) ?_
  refine TL.nil ?_
  refine T.seq ?_
  refine T.region ?_
  refine TL.cons rfl (Step.move (p := (.one (.row 1021 []))) rfl rfl (lt_ok rfl) rfl) ?_
  refine TL.cons rfl (Step.fieldAddr (q := 0) (off := 3) (n := 1) (one := true) rfl rfl (lt_ok rfl) (by kernel_rfl) (Nat.succ_ne_zero _) rfl) ?_
  refine TL.cons rfl (Step.load_box (c := .d (.ints .u8 q.f3)) rfl rfl (lt_ok rfl) (by kernel_rfl) rfl rfl rfl) ?_
  refine TL.cons rfl (Step.append (e := 5) (z := 1) (by_ := 1) (d := (.ints .u8 ((putVar (putVar b q.f0) q.f1) ++ q.f2))) (dy := (.ints .u8 q.f3)) (d' := (.ints .u8 (((putVar (putVar b q.f0) q.f1) ++ q.f2) ++ q.f3))) (ss := []) rfl rfl (lt_ok rfl) (by kernel_rfl) rfl rfl rfl (lt_ok rfl) rfl (.froz rfl (by simp [D.flat, D.val])) (by simp) rfl (by simp only [D.size, List.length_map]; first | omega | (simp; omega) | (simp only [List.length_append] at *; omega)) (by simp only [D.size, List.length_map]; first | omega | (simp; omega) | (simp only [List.length_append] at *; omega)) (by simp)) ?_
  refine TL.cons rfl (Step.assign (p := (.one (.row 1021 []))) rfl rfl (lt_ok rfl) rfl) ?_
  refine TL.nil ?_
  refine T.seq ?_
  refine T.seq ?_
  refine T.region ?_
  refine TL.cons rfl (Step.fieldAddr (q := 0) (off := 4) (n := 1) (one := true) rfl rfl (lt_ok rfl) (by kernel_rfl) (Nat.succ_ne_zero _) rfl) ?_
  refine TL.cons rfl (Step.load_box (c := .d (.bss q.f4)) rfl rfl (lt_ok rfl) (by kernel_rfl) rfl rfl rfl) ?_
  refine TL.cons rfl (Step.len (e := 24) (z := 1) (d := (.bss q.f4)) rfl rfl (lt_ok rfl) (by kernel_rfl) rfl rfl) ?_
  refine TL.cons rfl (Step.move (p := (.one (.d (.int .i64 0)))) rfl rfl (lt_ok rfl) rfl) ?_
  refine TL.nil ?_
  refine T.block ?_
  refine T.loop (ι := Nat) (fun xx_ => { tm := [(6, (.one (.nil))), (7, (.one (.d (.bool false)))), (30, (.one (.d (.bss q.f4)))), (31, (.one (.d (.int .i64 (q.f4.length : Int))))), (32, (.one (.d (.int .i64 (xx_ : Int))))), (8, (.one (.row 1021 [])))], rows := [(1018, (5, (.ints .u8 (putVar b q.f0)))), (1021, (5, (.ints .u8 ((q.f4.take xx_).foldl (fun b x => b ++ x) (putVar (putVar b q.f0) q.f1 ++ q.f2 ++ q.f3)))))], boxes := [(3, (34, [.d (.int .i64 l.f0), .d (.int .i64 l.f1), .d (.int .i64 l.f2), .d (.int .i64 l.f3), .d (.int .i64 l.f4)])), (5, (38, [.d (.int .i64 q.f0), .d (.int .i64 q.f1), .d (.ints .u8 q.f2), .d (.ints .u8 q.f3), .d (.bss q.f4)]))] }) (fun xx_ => xx_ ≤ q.f4.length) (fun xx_ => q.f4.length - xx_) 0 ?_ ?_ ?_
  · exact Env.le_mk ⟨rfl, rfl, rfl, rfl, by first | (refine congrArg (fun x => some (_, D.ints .u8 x)) ?_; first | (rw [foldl_take_succ _ _ _ i [] (by omega)]; done) | rfl) | rfl | (refine congrArg (fun n => PV.one (.d (.int .i64 n))) ?_; first | omega | (simp; done)), rfl, trivial⟩ ⟨rfl, by first | (refine congrArg (fun x => some (_, D.ints .u8 x)) ?_; first | (rw [foldl_take_succ _ _ _ i [] (by omega)]; done) | rfl) | rfl | (refine congrArg (fun n => PV.one (.d (.int .i64 n))) ?_; first | omega | (simp; done)), trivial⟩ ⟨rfl, rfl, trivial⟩
  · exact Nat.zero_le _
  ·
   intro i hx
   try dsimp only at hx ⊢
   have hw_ := raws_len (b := putVar (putVar b q.f0) q.f1 ++ q.f2 ++ q.f3) s2.1 s2.2 i
   have hy_ := mem_len s2.2 i
   simp only [List.length_append] at hw_
   refine T.seq ?_
   refine T.region ?_
   refine TL.cons rfl (Step.bin rfl rfl (lt_ok rfl) rfl rfl (Bin.lss (k := .i64) (a := (i : Int)) (b := (q.f4.length : Int)))) ?_
   refine TL.nil ?_
   refine T.seq ?_
   refine T.cond (b := decide ((i : Int) < (q.f4.length : Int))) rfl (fun h4 => ?_) (fun h4 => ?_)
   ·
    replace h4 := of_decide_eq_true h4
    refine T.skip ?_
    refine T.seq ?_
    refine T.block ?_
    refine T.seq ?_
    refine T.region ?_
    refine TL.cons rfl (Step.index (e := 24) (z := 1) (i := (i : Int)) rfl rfl (lt_ok rfl) (by kernel_rfl) rfl rfl rfl (lt_ok rfl) rfl (by first | omega | (simp only [List.length_append] at *; omega) | (simp; omega)) (by simp only [D.size]; first | omega | (simp only [List.length_append] at *; omega) | (simp; omega))) ?_
    refine TL.cons rfl (Step.load (e := (.ints .u8 (q.f4.getD i []))) rfl rfl (lt_ok rfl) (by kernel_rfl) rfl rfl) ?_
    refine TL.cons rfl (Step.assign (p := (.one (.d (.ints .u8 (q.f4.getD i []))))) rfl rfl (lt_ok rfl) rfl) ?_
    refine TL.nil ?_
    refine T.region ?_
    refine TL.cons rfl (Step.move (p := (.one (.row 1021 []))) rfl rfl (lt_ok rfl) rfl) ?_
    refine TL.cons rfl (Step.move (p := (.one (.d (.ints .u8 (q.f4.getD i []))))) rfl rfl (lt_ok rfl) rfl) ?_
    refine TL.cons rfl (Step.append (e := 5) (z := 1) (by_ := 1) (d := (.ints .u8 ((q.f4.take i).foldl (fun b x => b ++ x) (putVar (putVar b q.f0) q.f1 ++ q.f2 ++ q.f3)))) (dy := (.ints .u8 (q.f4.getD i []))) (d' := (.ints .u8 (((q.f4.take i).foldl (fun b x => b ++ x) (putVar (putVar b q.f0) q.f1 ++ q.f2 ++ q.f3)) ++ (q.f4.getD i [])))) (ss := []) rfl rfl (lt_ok rfl) (by kernel_rfl) rfl rfl rfl (lt_ok rfl) rfl (.froz rfl (by simp [D.flat, D.val])) (by simp) rfl (by simp only [D.size, List.length_map]; first | omega | (simp; omega) | (simp only [List.length_append] at *; omega)) (by simp only [D.size, List.length_map]; first | omega | (simp; omega) | (simp only [List.length_append] at *; omega)) (by simp)) ?_
    refine TL.cons rfl (Step.assign (p := (.one (.row 1021 []))) rfl rfl (lt_ok rfl) rfl) ?_
    refine TL.nil ?_
    refine T.region ?_
    refine TL.cons rfl (Step.bin (r := .int .i64 ((i : Int) + 1)) rfl rfl (lt_ok rfl) rfl rfl (Bin.add (a := (i : Int)) (b := 1) (by first | exact wrap_ok (by first | omega | (simp only [List.length_append] at *; omega) | (simp; omega)) (by first | omega | (simp only [List.length_append] at *; omega) | (simp; omega)) | rfl))) ?_
    refine TL.cons rfl (Step.move (p := (.one (.d (.int .i64 ((i : Int) + 1))))) rfl rfl (lt_ok rfl) rfl) ?_
    refine TL.nil ?_
    exact ⟨i + 1, by omega, by first | omega | (dsimp only; omega), Env.le_mk ⟨rfl, rfl, rfl, rfl, by first | (refine congrArg (fun x => some (_, D.ints .u8 x)) ?_; first | (rw [foldl_take_succ _ _ _ i [] (by omega)]; done) | rfl) | rfl | (refine congrArg (fun n => PV.one (.d (.int .i64 n))) ?_; first | omega | (simp; done)), rfl, trivial⟩ ⟨rfl, by first | (refine congrArg (fun x => some (_, D.ints .u8 x)) ?_; first | (rw [foldl_take_succ _ _ _ i [] (by omega)]; done) | rfl) | rfl | (refine congrArg (fun n => PV.one (.d (.int .i64 n))) ?_; first | omega | (simp; done)), trivial⟩ ⟨rfl, rfl, trivial⟩⟩
   ·
    replace h4 := of_decide_eq_false h4
    refine T.exit ?_
    refine T.seq ?_
    refine T.region ?_
    refine TL.cons rfl (Step.move (p := (.one (.row 1021 []))) rfl rfl (lt_ok rfl) rfl) ?_
    refine TL.cons rfl (Step.assign (p := (.one (.row 1021 []))) rfl rfl (lt_ok rfl) rfl) ?_
    refine TL.cons rfl (Step.assign (p := (.one (.d (.bool true)))) rfl rfl (lt_ok rfl) rfl) ?_
    refine TL.nil ?_
    refine T.ret ?_
    exact ⟨[(false, [.row 1021 []]), (false, [.d (.bool true)])], (.cons rfl (.cons rfl .nil)), rfl, [1021], (RetC.own' rfl (by first | rfl | (congr 1; unfold putQc putQcB rawsB; rw [if_pos (by assumption), foldl_all _ _ _ i (by omega)]) | (show (putQc l b q).length = 0; unfold putQc; rw [if_neg (by simp [*])]; rfl) | (congr 1; symm; assumption)) rfl (RetC.rd' (by first | rfl | (congr 1; unfold putQc putQcB rawsB; rw [if_pos (by assumption), foldl_all _ _ _ i (by omega)]) | (show (putQc l b q).length = 0; unfold putQc; rw [if_neg (by simp [*])]; rfl) | (congr 1; symm; assumption)) .nil))⟩
theorem ok_spec_PutHead (l : SLimits) (b : List Int) (h : SHead) (h0_ : b.length ≤ 8796000000000) (h1_ : h.ok) (h2_ : h.sm) : RO Try.prog 71 [.agg l.cells, .one (.ints .u8 b), .agg h.cells] [(false, [.own 5 (.ints .u8 (putHead l b h))]), (false, [.rd (.bool (headOk l h))])] := by
 refine RO.intro Try.func71 rfl 37 rfl (le_ok rfl) fun w Z => ?_
 refine T.bnd 1 0 rfl rfl fun hb_1_0 => ?_
 simp only [D.size, List.length_map] at hb_1_0
 have hok_ := h1_
 have hsm_ := h2_
 obtain ⟨o0, o1, o2, o3, o4, o5⟩ := h1_
 obtain ⟨s0, s1, s2⟩ := h2_
 refine T.seq ?_
 refine T.region ?_
 refine TL.cons rfl (Step.box (p := (.agg [.d (.int .i64 l.f0), .d (.int .i64 l.f1), .d (.int .i64 l.f2), .d (.int .i64 l.f3), .d (.int .i64 l.f4)])) (ps := [.d (.int .i64 l.f0), .d (.int .i64 l.f1), .d (.int .i64 l.f2), .d (.int .i64 l.f3), .d (.int .i64 l.f4)]) rfl rfl (lt_ok rfl) rfl rfl rfl rfl rfl) ?_
 refine TL.cons rfl (Step.box (p := (.agg [.d (.int .i64 h.f0), .d (.int .i64 h.f1), .d (.int .i64 h.f2), .d (.ints .u8 h.f3), .d (.ints .u8 h.f4), .d (.int .i64 h.f5.f0), .d (.int .i64 h.f5.f1), .d (.ints .u8 h.f5.f2), .d (.ints .u8 h.f5.f3), .d (.bss h.f5.f4)])) (ps := [.d (.int .i64 h.f0), .d (.int .i64 h.f1), .d (.int .i64 h.f2), .d (.ints .u8 h.f3), .d (.ints .u8 h.f4), .d (.int .i64 h.f5.f0), .d (.int .i64 h.f5.f1), .d (.ints .u8 h.f5.f2), .d (.ints .u8 h.f5.f3), .d (.bss h.f5.f4)]) rfl rfl (lt_ok rfl) rfl rfl rfl rfl rfl) ?_
 refine TL.cons rfl (Step.assign (p := (.one (.nil))) rfl rfl (lt_ok rfl) rfl) ?_
 refine TL.cons rfl (Step.assign (p := (.one (.d (.bool false)))) rfl rfl (lt_ok rfl) rfl) ?_
 refine TL.nil ?_
 refine T.seq ?_
 refine T.seq ?_
 refine T.region ?_
 refine TL.cons rfl (Step.load_box_agg (n := 5) (qs := [.d (.int .i64 l.f0), .d (.int .i64 l.f1), .d (.int .i64 l.f2), .d (.int .i64 l.f3), .d (.int .i64 l.f4)]) rfl rfl (lt_ok rfl) (by kernel_rfl) rfl rfl rfl rfl) ?_
 refine TL.cons rfl (Step.load_box_agg (n := 10) (qs := [.d (.int .i64 h.f0), .d (.int .i64 h.f1), .d (.int .i64 h.f2), .d (.ints .u8 h.f3), .d (.ints .u8 h.f4), .d (.int .i64 h.f5.f0), .d (.int .i64 h.f5.f1), .d (.ints .u8 h.f5.f2), .d (.ints .u8 h.f5.f3), .d (.bss h.f5.f4)]) rfl rfl (lt_ok rfl) (by kernel_rfl) rfl rfl rfl rfl) ?_
 refine TL.cons rfl (Step.call (f := 104) (xs := [.tmp 9, .tmp 10]) (ps := [(.agg [.d (.int .i64 l.f0), .d (.int .i64 l.f1), .d (.int .i64 l.f2), .d (.int .i64 l.f3), .d (.int .i64 l.f4)]), (.agg [.d (.int .i64 h.f0), .d (.int .i64 h.f1), .d (.int .i64 h.f2), .d (.ints .u8 h.f3), .d (.ints .u8 h.f4), .d (.int .i64 h.f5.f0), .d (.int .i64 h.f5.f1), .d (.ints .u8 h.f5.f2), .d (.ints .u8 h.f5.f3), .d (.bss h.f5.f4)])]) false (g := .func 104) rfl rfl (lt_ok rfl) rfl (by kernel_rfl) rfl (.cons (.agg (.cons (.d _) (.cons (.d _) (.cons (.d _) (.cons (.d _) (.cons (.d _) .nil)))))) (.cons (.agg (.cons (.d _) (.cons (.d _) (.cons (.d _) (.cons (.d _) (.cons (.d _) (.cons (.d _) (.cons (.d _) (.cons (.d _) (.cons (.d _) (.cons (.d _) .nil))))))))))) .nil)) (ok_spec_HeadOk l h (by first | assumption | exact mem_getD o0 (by omega) | exact mem_getD h0_ (by omega)) (by first | assumption | exact mem_getD s0.2 (by omega) | exact mem_getD h1_ (by omega))) (.inr rfl) rfl (by simp) rfl) ?_
 refine TL.cons rfl (Step.not (b := (headOk l h)) rfl rfl (lt_ok rfl) rfl) ?_
 refine TL.nil ?_
 refine T.cond (b := !(headOk l h)) rfl (fun h1 => ?_) (fun h1 => ?_)
 ·
  replace h1 : (headOk l h) = false := by simpa only [Bool.not_eq_true', Bool.not_eq_false'] using h1
  refine T.seq ?_
  refine T.region ?_
  refine TL.cons rfl (Step.assign (p := (.one (.nil))) rfl rfl (lt_ok rfl) rfl) ?_
  refine TL.cons rfl (Step.assign (p := (.one (.d (.bool false)))) rfl rfl (lt_ok rfl) rfl) ?_
  refine TL.nil ?_
  refine T.ret ?_
  exact ⟨[(false, [.nil]), (false, [.d (.bool false)])], (.cons rfl (.cons rfl .nil)), rfl, [], (RetC.nilown' rfl (by first | rfl | (congr 1; have hq_ := headOk_qc (by assumption); simp only [putQc, putHead, putHeadB, hq_, *, if_true]; done) | (congr 1; have hq_ := headOk_qc (by assumption); unfold putQc putHead putHeadB; rw [if_pos hq_, if_pos (by assumption)]) | (show (putHead l b h).length = 0; unfold putHead; rw [if_neg (by simp [*])]; rfl) | (congr 1; symm; assumption) | (congr 1; have hq_ := headOk_qc (by assumption); rw [hq_]; symm; assumption)) (by first | exact trivial | exact D.wf_nil _) (RetC.rd' (by first | rfl | (congr 1; have hq_ := headOk_qc (by assumption); simp only [putQc, putHead, putHeadB, hq_, *, if_true]; done) | (congr 1; have hq_ := headOk_qc (by assumption); unfold putQc putHead putHeadB; rw [if_pos hq_, if_pos (by assumption)]) | (show (putHead l b h).length = 0; unfold putHead; rw [if_neg (by simp [*])]; rfl) | (congr 1; symm; assumption) | (congr 1; have hq_ := headOk_qc (by assumption); rw [hq_]; symm; assumption)) .nil))⟩
 ·
  replace h1 : (headOk l h) = true := by simpa only [Bool.not_eq_true', Bool.not_eq_false'] using h1
  refine T.skip ?_
  refine T.seq ?_
  have nn2 := putVar_len b h.f0
  have nn3 := putVar_len (putVar b h.f0) h.f1
  have nn4 := putVar_len (putVar (putVar b h.f0) h.f1) h.f2
  refine T.drawX [{ dst := some 13, pv := (.one (.d (.ints .u8 b))) }, { dst := some 14, pv := (.one (.ptr 5 0)) }, { dst := some 15, pv := (.one (.d (.int .i64 h.f0))) }, { dst := some 16, pv := (.one (.row 1016 [])), rows := [(1016, (5, (.ints .u8 (putVar b h.f0))))] }, { dst := some 17, pv := (.one (.ptr 5 1)) }, { dst := some 18, pv := (.one (.d (.int .i64 h.f1))) }, { dst := some 19, pv := (.one (.row 1019 [])), rows := [(1019, (5, (.ints .u8 (putVar (putVar b h.f0) h.f1))))] }, { dst := some 20, pv := (.one (.ptr 5 2)) }, { dst := some 21, pv := (.one (.d (.int .i64 h.f2))) }, { dst := some 22, pv := (.one (.row 1022 [])), rows := [(1022, (5, (.ints .u8 (putVar (putVar (putVar b h.f0) h.f1) h.f2))))] }, { dst := some 8, pv := (.one (.row 1022 [])) }] (by kernel_rfl) (by kernel_rfl) ?_ ?_
  ·
   refine .cons (fun E hA_ => by have g1 : E.get 1 = (.one (.d (.ints .u8 b))) := (hA_.get 1 (by kernel_rfl)).trans (by kernel_rfl); exact OpStep.plain rfl (Step.move (p := (.one (.d (.ints .u8 b)))) (t := 13) rfl rfl (by exact lt_ok rfl) (show Env.ev E (.tmp 1) = _ from g1.trans rfl))) ?_
   refine .cons (fun E hA_ => by have g5 : E.get 5 = (.one (.ptr 5 0)) := (hA_.get 5 (by kernel_rfl)).trans (by kernel_rfl); exact OpStep.plain rfl (Step.fieldAddr (q := 0) (off := 0) (n := 1) (one := true) (t := 14) rfl rfl (by exact lt_ok rfl) (by kernel_rfl) (Nat.succ_ne_zero _) (show Env.ev E (.tmp 5) = _ from g5.trans rfl))) ?_
   refine .cons (fun E hA_ => by have g14 : E.get 14 = (.one (.ptr 5 0)) := (hA_.get 14 (by kernel_rfl)).trans (by kernel_rfl); have b5 : E.box 5 = some (54, [.d (.int .i64 h.f0), .d (.int .i64 h.f1), .d (.int .i64 h.f2), .d (.ints .u8 h.f3), .d (.ints .u8 h.f4), .d (.int .i64 h.f5.f0), .d (.int .i64 h.f5.f1), .d (.ints .u8 h.f5.f2), .d (.ints .u8 h.f5.f3), .d (.bss h.f5.f4)]) := (hA_.box 5 (by kernel_rfl)).trans (by kernel_rfl); exact OpStep.plain rfl (Step.load_box (c := .d (.int .i64 h.f0)) (t := 15) rfl rfl (by exact lt_ok rfl) (by kernel_rfl) (show Env.ev E (.tmp 14) = _ from g14.trans rfl) b5 rfl)) ?_
   refine .cons (fun E hA_ => by have g13 : E.get 13 = (.one (.d (.ints .u8 b))) := (hA_.get 13 (by kernel_rfl)).trans (by kernel_rfl); have g15 : E.get 15 = (.one (.d (.int .i64 h.f0))) := (hA_.get 15 (by kernel_rfl)).trans (by kernel_rfl); exact OpStep.plain rfl (Step.call (f := 70) (xs := [.tmp 13, .tmp 15]) (ps := [(.one (.d (.ints .u8 b))), (.one (.d (.int .i64 h.f0)))]) false (g := .func 70) (t := 16) rfl rfl (by exact lt_ok rfl) rfl (by kernel_rfl) (evs_cons (show Env.ev E (.tmp 13) = _ from g13.trans rfl) (evs_cons (show Env.ev E (.tmp 15) = _ from g15.trans rfl) (rfl))) (.cons (.one (.d _)) (.cons (.one (.d _)) .nil)) (ok_spec_l11Num b h.f0 (by first | omega | assumption | (simp only [List.length_append] at *; omega))) (.inr rfl) (freshRows_of _ _ (fun x_ hx_ => hA_.fresh x_ (by exact hx_))) (by simp) rfl)) ?_
   refine .cons (fun E hA_ => by have g5 : E.get 5 = (.one (.ptr 5 0)) := (hA_.get 5 (by kernel_rfl)).trans (by kernel_rfl); exact OpStep.plain rfl (Step.fieldAddr (q := 0) (off := 1) (n := 1) (one := true) (t := 17) rfl rfl (by exact lt_ok rfl) (by kernel_rfl) (Nat.succ_ne_zero _) (show Env.ev E (.tmp 5) = _ from g5.trans rfl))) ?_
   refine .cons (fun E hA_ => by have g17 : E.get 17 = (.one (.ptr 5 1)) := (hA_.get 17 (by kernel_rfl)).trans (by kernel_rfl); have b5 : E.box 5 = some (54, [.d (.int .i64 h.f0), .d (.int .i64 h.f1), .d (.int .i64 h.f2), .d (.ints .u8 h.f3), .d (.ints .u8 h.f4), .d (.int .i64 h.f5.f0), .d (.int .i64 h.f5.f1), .d (.ints .u8 h.f5.f2), .d (.ints .u8 h.f5.f3), .d (.bss h.f5.f4)]) := (hA_.box 5 (by kernel_rfl)).trans (by kernel_rfl); exact OpStep.plain rfl (Step.load_box (c := .d (.int .i64 h.f1)) (t := 18) rfl rfl (by exact lt_ok rfl) (by kernel_rfl) (show Env.ev E (.tmp 17) = _ from g17.trans rfl) b5 rfl)) ?_
   refine .cons (fun E hA_ => by have g16 : E.get 16 = (.one (.row 1016 [])) := (hA_.get 16 (by kernel_rfl)).trans (by kernel_rfl); have g18 : E.get 18 = (.one (.d (.int .i64 h.f1))) := (hA_.get 18 (by kernel_rfl)).trans (by kernel_rfl); have q1016 : E.row 1016 = some (5, (.ints .u8 (putVar b h.f0))) := (hA_.row 1016 (by kernel_rfl)).trans (by kernel_rfl); exact OpStep.plain rfl (Step.call (f := 70) (xs := [.tmp 16, .tmp 18]) (ps := [(.one (.row 1016 [])), (.one (.d (.int .i64 h.f1)))]) false (g := .func 70) (t := 19) rfl rfl (by exact lt_ok rfl) rfl (by kernel_rfl) (evs_cons (show Env.ev E (.tmp 16) = _ from g16.trans rfl) (evs_cons (show Env.ev E (.tmp 18) = _ from g18.trans rfl) (rfl))) (.cons (.one (.row rfl q1016 rfl rfl)) (.cons (.one (.d _)) .nil)) (ok_spec_l11Num (putVar b h.f0) h.f1 (by first | omega | assumption | (simp only [List.length_append] at *; omega))) (.inr rfl) (freshRows_of _ _ (fun x_ hx_ => hA_.fresh x_ (by exact hx_))) (by simp) rfl)) ?_
   refine .cons (fun E hA_ => by have g5 : E.get 5 = (.one (.ptr 5 0)) := (hA_.get 5 (by kernel_rfl)).trans (by kernel_rfl); exact OpStep.plain rfl (Step.fieldAddr (q := 0) (off := 2) (n := 1) (one := true) (t := 20) rfl rfl (by exact lt_ok rfl) (by kernel_rfl) (Nat.succ_ne_zero _) (show Env.ev E (.tmp 5) = _ from g5.trans rfl))) ?_
   refine .cons (fun E hA_ => by have g20 : E.get 20 = (.one (.ptr 5 2)) := (hA_.get 20 (by kernel_rfl)).trans (by kernel_rfl); have b5 : E.box 5 = some (54, [.d (.int .i64 h.f0), .d (.int .i64 h.f1), .d (.int .i64 h.f2), .d (.ints .u8 h.f3), .d (.ints .u8 h.f4), .d (.int .i64 h.f5.f0), .d (.int .i64 h.f5.f1), .d (.ints .u8 h.f5.f2), .d (.ints .u8 h.f5.f3), .d (.bss h.f5.f4)]) := (hA_.box 5 (by kernel_rfl)).trans (by kernel_rfl); exact OpStep.plain rfl (Step.load_box (c := .d (.int .i64 h.f2)) (t := 21) rfl rfl (by exact lt_ok rfl) (by kernel_rfl) (show Env.ev E (.tmp 20) = _ from g20.trans rfl) b5 rfl)) ?_
   refine .cons (fun E hA_ => by have g19 : E.get 19 = (.one (.row 1019 [])) := (hA_.get 19 (by kernel_rfl)).trans (by kernel_rfl); have g21 : E.get 21 = (.one (.d (.int .i64 h.f2))) := (hA_.get 21 (by kernel_rfl)).trans (by kernel_rfl); have q1019 : E.row 1019 = some (5, (.ints .u8 (putVar (putVar b h.f0) h.f1))) := (hA_.row 1019 (by kernel_rfl)).trans (by kernel_rfl); exact OpStep.plain rfl (Step.call (f := 70) (xs := [.tmp 19, .tmp 21]) (ps := [(.one (.row 1019 [])), (.one (.d (.int .i64 h.f2)))]) false (g := .func 70) (t := 22) rfl rfl (by exact lt_ok rfl) rfl (by kernel_rfl) (evs_cons (show Env.ev E (.tmp 19) = _ from g19.trans rfl) (evs_cons (show Env.ev E (.tmp 21) = _ from g21.trans rfl) (rfl))) (.cons (.one (.row rfl q1019 rfl rfl)) (.cons (.one (.d _)) .nil)) (ok_spec_l11Num (putVar (putVar b h.f0) h.f1) h.f2 (by first | omega | assumption | (simp only [List.length_append] at *; omega))) (.inr rfl) (freshRows_of _ _ (fun x_ hx_ => hA_.fresh x_ (by exact hx_))) (by simp) rfl)) ?_
   refine .cons (fun E hA_ => by have g22 : E.get 22 = (.one (.row 1022 [])) := (hA_.get 22 (by kernel_rfl)).trans (by kernel_rfl); exact OpStep.plain rfl (Step.assign (p := (.one (.row 1022 []))) (t := 8) rfl rfl (by exact lt_ok rfl) (show Env.ev E (.tmp 22) = _ from g22.trans rfl))) ?_
   exact .nil _ _
  refine TL.weaken (E' := { tm := [(0, (.agg [.d (.int .i64 l.f0), .d (.int .i64 l.f1), .d (.int .i64 l.f2), .d (.int .i64 l.f3), .d (.int .i64 l.f4)])), (1, (.one (.d (.ints .u8 b)))), (2, (.agg [.d (.int .i64 h.f0), .d (.int .i64 h.f1), .d (.int .i64 h.f2), .d (.ints .u8 h.f3), .d (.ints .u8 h.f4), .d (.int .i64 h.f5.f0), .d (.int .i64 h.f5.f1), .d (.ints .u8 h.f5.f2), .d (.ints .u8 h.f5.f3), .d (.bss h.f5.f4)])), (3, (.one (.ptr 3 0))), (5, (.one (.ptr 5 0))), (6, (.one (.nil))), (7, (.one (.d (.bool false)))), (9, (.agg [.d (.int .i64 l.f0), .d (.int .i64 l.f1), .d (.int .i64 l.f2), .d (.int .i64 l.f3), .d (.int .i64 l.f4)])), (10, (.agg [.d (.int .i64 h.f0), .d (.int .i64 h.f1), .d (.int .i64 h.f2), .d (.ints .u8 h.f3), .d (.ints .u8 h.f4), .d (.int .i64 h.f5.f0), .d (.int .i64 h.f5.f1), .d (.ints .u8 h.f5.f2), .d (.ints .u8 h.f5.f3), .d (.bss h.f5.f4)])), (11, (.one (.d (.bool (headOk l h))))), (12, (.one (.d (.bool (!(headOk l h)))))), (13, (.one (.d (.ints .u8 b)))), (14, (.one (.ptr 5 0))), (15, (.one (.d (.int .i64 h.f0)))), (16, (.one (.row 1016 []))), (17, (.one (.ptr 5 1))), (18, (.one (.d (.int .i64 h.f1)))), (19, (.one (.row 1019 []))), (20, (.one (.ptr 5 2))), (21, (.one (.d (.int .i64 h.f2)))), (22, (.one (.row 1022 []))), (8, (.one (.row 1022 [])))], rows := [(1016, (5, (.ints .u8 (putVar b h.f0)))), (1019, (5, (.ints .u8 (putVar (putVar b h.f0) h.f1)))), (1022, (5, (.ints .u8 (putVar (putVar (putVar b h.f0) h.f1) h.f2))))], boxes := [(3, (34, [.d (.int .i64 l.f0), .d (.int .i64 l.f1), .d (.int .i64 l.f2), .d (.int .i64 l.f3), .d (.int .i64 l.f4)])), (5, (54, [.d (.int .i64 h.f0), .d (.int .i64 h.f1), .d (.int .i64 h.f2), .d (.ints .u8 h.f3), .d (.ints .u8 h.f4), .d (.int .i64 h.f5.f0), .d (.int .i64 h.f5.f1), .d (.ints .u8 h.f5.f2), .d (.ints .u8 h.f5.f3), .d (.bss h.f5.f4)]))] }) (Env.le_mk ⟨by kernel_rfl, by kernel_rfl, by kernel_rfl, by kernel_rfl, by kernel_rfl, by kernel_rfl, by kernel_rfl, by kernel_rfl, by kernel_rfl, by kernel_rfl, by kernel_rfl, by kernel_rfl, by kernel_rfl, by kernel_rfl, by kernel_rfl, by kernel_rfl, by kernel_rfl, by kernel_rfl, by kernel_rfl, by kernel_rfl, by kernel_rfl, by kernel_rfl, trivial⟩ ⟨by kernel_rfl, by kernel_rfl, by kernel_rfl, trivial⟩ ⟨by kernel_rfl, by kernel_rfl, trivial⟩) ?_
  refine TL.nil ?_
  refine T.seq ?_
  refine T.drawX [{ dst := some 23, pv := (.one (.row 1022 [])) }, { dst := some 24, pv := (.one (.ptr 5 3)) }, { dst := some 25, pv := (.one (.d (.ints .u8 h.f3))) }, { dst := some 26, pv := (.one (.row 500026 [])), rows := [(500026, (5, (.ints .u8 ((putVar (putVar (putVar b h.f0) h.f1) h.f2) ++ h.f3))))], dead := [1022] }, { dst := some 27, pv := (.one (.ptr 5 4)) }, { dst := some 28, pv := (.one (.d (.ints .u8 h.f4))) }, { dst := some 29, pv := (.one (.row 500029 [])), rows := [(500029, (5, (.ints .u8 (((putVar (putVar (putVar b h.f0) h.f1) h.f2) ++ h.f3) ++ h.f4))))], dead := [500026] }, { dst := some 8, pv := (.one (.row 500029 [])) }] (by kernel_rfl) (by kernel_rfl) ?_ ?_
  ·
   refine .cons (fun E hA_ => by have g8 : E.get 8 = (.one (.row 1022 [])) := (hA_.get 8 (by kernel_rfl)).trans (by kernel_rfl); exact OpStep.plain rfl (Step.move (p := (.one (.row 1022 []))) (t := 23) rfl rfl (by exact lt_ok rfl) (show Env.ev E (.tmp 8) = _ from g8.trans rfl))) ?_
   refine .cons (fun E hA_ => by have g5 : E.get 5 = (.one (.ptr 5 0)) := (hA_.get 5 (by kernel_rfl)).trans (by kernel_rfl); exact OpStep.plain rfl (Step.fieldAddr (q := 0) (off := 3) (n := 1) (one := true) (t := 24) rfl rfl (by exact lt_ok rfl) (by kernel_rfl) (Nat.succ_ne_zero _) (show Env.ev E (.tmp 5) = _ from g5.trans rfl))) ?_
   refine .cons (fun E hA_ => by have g24 : E.get 24 = (.one (.ptr 5 3)) := (hA_.get 24 (by kernel_rfl)).trans (by kernel_rfl); have b5 : E.box 5 = some (54, [.d (.int .i64 h.f0), .d (.int .i64 h.f1), .d (.int .i64 h.f2), .d (.ints .u8 h.f3), .d (.ints .u8 h.f4), .d (.int .i64 h.f5.f0), .d (.int .i64 h.f5.f1), .d (.ints .u8 h.f5.f2), .d (.ints .u8 h.f5.f3), .d (.bss h.f5.f4)]) := (hA_.box 5 (by kernel_rfl)).trans (by kernel_rfl); exact OpStep.plain rfl (Step.load_box (c := .d (.ints .u8 h.f3)) (t := 25) rfl rfl (by exact lt_ok rfl) (by kernel_rfl) (show Env.ev E (.tmp 24) = _ from g24.trans rfl) b5 rfl)) ?_
   refine .cons (fun E hA_ => by have g23 : E.get 23 = (.one (.row 1022 [])) := (hA_.get 23 (by kernel_rfl)).trans (by kernel_rfl); have g25 : E.get 25 = (.one (.d (.ints .u8 h.f3))) := (hA_.get 25 (by kernel_rfl)).trans (by kernel_rfl); have q1022 : E.row 1022 = some (5, (.ints .u8 (putVar (putVar (putVar b h.f0) h.f1) h.f2))) := (hA_.row 1022 (by kernel_rfl)).trans (by kernel_rfl); exact OpStep.plain rfl (Step.appendX (e := 5) (z := 1) (by_ := 1) (d := (.ints .u8 (putVar (putVar (putVar b h.f0) h.f1) h.f2))) (dy := (.ints .u8 h.f3)) (d' := (.ints .u8 ((putVar (putVar (putVar b h.f0) h.f1) h.f2) ++ h.f3))) (ss := []) 500026 (t := 26) rfl rfl (by exact lt_ok rfl) (by kernel_rfl) (show Env.ev E (.tmp 23) = _ from g23.trans rfl) q1022 rfl (lt_ok rfl) (show Env.ev E (.tmp 25) = _ from g25.trans rfl) (.froz rfl (by simp [D.flat, D.val])) (by simp) rfl (by simp only [D.size, List.length_map]; first | omega | (simp; omega) | (simp only [List.length_append] at *; omega)) (by simp only [D.size, List.length_map]; first | omega | (simp; omega) | (simp only [List.length_append] at *; omega)) (by simp) (hA_.fresh _ (List.mem_singleton.2 rfl)) (by simp) (by simp))) ?_
   refine .cons (fun E hA_ => by have g5 : E.get 5 = (.one (.ptr 5 0)) := (hA_.get 5 (by kernel_rfl)).trans (by kernel_rfl); exact OpStep.plain rfl (Step.fieldAddr (q := 0) (off := 4) (n := 1) (one := true) (t := 27) rfl rfl (by exact lt_ok rfl) (by kernel_rfl) (Nat.succ_ne_zero _) (show Env.ev E (.tmp 5) = _ from g5.trans rfl))) ?_
   refine .cons (fun E hA_ => by have g27 : E.get 27 = (.one (.ptr 5 4)) := (hA_.get 27 (by kernel_rfl)).trans (by kernel_rfl); have b5 : E.box 5 = some (54, [.d (.int .i64 h.f0), .d (.int .i64 h.f1), .d (.int .i64 h.f2), .d (.ints .u8 h.f3), .d (.ints .u8 h.f4), .d (.int .i64 h.f5.f0), .d (.int .i64 h.f5.f1), .d (.ints .u8 h.f5.f2), .d (.ints .u8 h.f5.f3), .d (.bss h.f5.f4)]) := (hA_.box 5 (by kernel_rfl)).trans (by kernel_rfl); exact OpStep.plain rfl (Step.load_box (c := .d (.ints .u8 h.f4)) (t := 28) rfl rfl (by exact lt_ok rfl) (by kernel_rfl) (show Env.ev E (.tmp 27) = _ from g27.trans rfl) b5 rfl)) ?_
   refine .cons (fun E hA_ => by have g26 : E.get 26 = (.one (.row 500026 [])) := (hA_.get 26 (by kernel_rfl)).trans (by kernel_rfl); have g28 : E.get 28 = (.one (.d (.ints .u8 h.f4))) := (hA_.get 28 (by kernel_rfl)).trans (by kernel_rfl); have q500026 : E.row 500026 = some (5, (.ints .u8 ((putVar (putVar (putVar b h.f0) h.f1) h.f2) ++ h.f3))) := (hA_.row 500026 (by kernel_rfl)).trans (by kernel_rfl); exact OpStep.plain rfl (Step.appendX (e := 5) (z := 1) (by_ := 1) (d := (.ints .u8 ((putVar (putVar (putVar b h.f0) h.f1) h.f2) ++ h.f3))) (dy := (.ints .u8 h.f4)) (d' := (.ints .u8 (((putVar (putVar (putVar b h.f0) h.f1) h.f2) ++ h.f3) ++ h.f4))) (ss := []) 500029 (t := 29) rfl rfl (by exact lt_ok rfl) (by kernel_rfl) (show Env.ev E (.tmp 26) = _ from g26.trans rfl) q500026 rfl (lt_ok rfl) (show Env.ev E (.tmp 28) = _ from g28.trans rfl) (.froz rfl (by simp [D.flat, D.val])) (by simp) rfl (by simp only [D.size, List.length_map]; first | omega | (simp; omega) | (simp only [List.length_append] at *; omega)) (by simp only [D.size, List.length_map]; first | omega | (simp; omega) | (simp only [List.length_append] at *; omega)) (by simp) (hA_.fresh _ (List.mem_singleton.2 rfl)) (by simp) (by simp))) ?_
   refine .cons (fun E hA_ => by have g29 : E.get 29 = (.one (.row 500029 [])) := (hA_.get 29 (by kernel_rfl)).trans (by kernel_rfl); exact OpStep.plain rfl (Step.assign (p := (.one (.row 500029 []))) (t := 8) rfl rfl (by exact lt_ok rfl) (show Env.ev E (.tmp 29) = _ from g29.trans rfl))) ?_
   exact .nil _ _
  refine TL.weaken (E' := { tm := [(0, (.agg [.d (.int .i64 l.f0), .d (.int .i64 l.f1), .d (.int .i64 l.f2), .d (.int .i64 l.f3), .d (.int .i64 l.f4)])), (1, (.one (.d (.ints .u8 b)))), (2, (.agg [.d (.int .i64 h.f0), .d (.int .i64 h.f1), .d (.int .i64 h.f2), .d (.ints .u8 h.f3), .d (.ints .u8 h.f4), .d (.int .i64 h.f5.f0), .d (.int .i64 h.f5.f1), .d (.ints .u8 h.f5.f2), .d (.ints .u8 h.f5.f3), .d (.bss h.f5.f4)])), (3, (.one (.ptr 3 0))), (5, (.one (.ptr 5 0))), (6, (.one (.nil))), (7, (.one (.d (.bool false)))), (9, (.agg [.d (.int .i64 l.f0), .d (.int .i64 l.f1), .d (.int .i64 l.f2), .d (.int .i64 l.f3), .d (.int .i64 l.f4)])), (10, (.agg [.d (.int .i64 h.f0), .d (.int .i64 h.f1), .d (.int .i64 h.f2), .d (.ints .u8 h.f3), .d (.ints .u8 h.f4), .d (.int .i64 h.f5.f0), .d (.int .i64 h.f5.f1), .d (.ints .u8 h.f5.f2), .d (.ints .u8 h.f5.f3), .d (.bss h.f5.f4)])), (11, (.one (.d (.bool (headOk l h))))), (12, (.one (.d (.bool (!(headOk l h)))))), (13, (.one (.d (.ints .u8 b)))), (14, (.one (.ptr 5 0))), (15, (.one (.d (.int .i64 h.f0)))), (16, (.one (.row 1016 []))), (17, (.one (.ptr 5 1))), (18, (.one (.d (.int .i64 h.f1)))), (19, (.one (.row 1019 []))), (20, (.one (.ptr 5 2))), (21, (.one (.d (.int .i64 h.f2)))), (8, (.one (.row 500029 []))), (24, (.one (.ptr 5 3))), (25, (.one (.d (.ints .u8 h.f3)))), (27, (.one (.ptr 5 4))), (28, (.one (.d (.ints .u8 h.f4)))), (29, (.one (.row 500029 [])))], rows := [(1016, (5, (.ints .u8 (putVar b h.f0)))), (1019, (5, (.ints .u8 (putVar (putVar b h.f0) h.f1)))), (500029, (5, (.ints .u8 (((putVar (putVar (putVar b h.f0) h.f1) h.f2) ++ h.f3) ++ h.f4))))], boxes := [(3, (34, [.d (.int .i64 l.f0), .d (.int .i64 l.f1), .d (.int .i64 l.f2), .d (.int .i64 l.f3), .d (.int .i64 l.f4)])), (5, (54, [.d (.int .i64 h.f0), .d (.int .i64 h.f1), .d (.int .i64 h.f2), .d (.ints .u8 h.f3), .d (.ints .u8 h.f4), .d (.int .i64 h.f5.f0), .d (.int .i64 h.f5.f1), .d (.ints .u8 h.f5.f2), .d (.ints .u8 h.f5.f3), .d (.bss h.f5.f4)]))] }) (Env.le_mk ⟨by kernel_rfl, by kernel_rfl, by kernel_rfl, by kernel_rfl, by kernel_rfl, by kernel_rfl, by kernel_rfl, by kernel_rfl, by kernel_rfl, by kernel_rfl, by kernel_rfl, by kernel_rfl, by kernel_rfl, by kernel_rfl, by kernel_rfl, by kernel_rfl, by kernel_rfl, by kernel_rfl, by kernel_rfl, by kernel_rfl, by kernel_rfl, by kernel_rfl, by kernel_rfl, by kernel_rfl, by kernel_rfl, by kernel_rfl, trivial⟩ ⟨by kernel_rfl, by kernel_rfl, by kernel_rfl, trivial⟩ ⟨by kernel_rfl, by kernel_rfl, trivial⟩) ?_
  refine TL.nil ?_
  refine T.seq ?_
  refine T.region ?_
  refine TL.cons rfl (Step.load_box_agg (n := 5) (qs := [.d (.int .i64 l.f0), .d (.int .i64 l.f1), .d (.int .i64 l.f2), .d (.int .i64 l.f3), .d (.int .i64 l.f4)]) rfl rfl (lt_ok rfl) (by kernel_rfl) rfl rfl rfl rfl) ?_
  refine TL.cons rfl (Step.move (p := (.one (.row 500029 []))) rfl rfl (lt_ok rfl) rfl) ?_
  refine TL.cons rfl (Step.fieldAddr (q := 0) (off := 5) (n := 5) (one := false) rfl rfl (lt_ok rfl) (by kernel_rfl) (Nat.succ_ne_zero _) rfl) ?_
  refine TL.cons rfl (Step.load_box_agg (n := 5) (qs := [.d (.int .i64 h.f5.f0), .d (.int .i64 h.f5.f1), .d (.ints .u8 h.f5.f2), .d (.ints .u8 h.f5.f3), .d (.bss h.f5.f4)]) rfl rfl (lt_ok rfl) (by kernel_rfl) rfl rfl rfl rfl) ?_
  have nn5 := @putQc_len l (((putVar (putVar (putVar b h.f0) h.f1) h.f2) ++ h.f3) ++ h.f4) h.f5 (by assumption)
  refine TL.cons rfl (Step.call (f := 72) (xs := [.tmp 30, .tmp 31, .tmp 33]) (ps := [(.agg [.d (.int .i64 l.f0), .d (.int .i64 l.f1), .d (.int .i64 l.f2), .d (.int .i64 l.f3), .d (.int .i64 l.f4)]), (.one (.row 500029 [])), (.agg [.d (.int .i64 h.f5.f0), .d (.int .i64 h.f5.f1), .d (.ints .u8 h.f5.f2), .d (.ints .u8 h.f5.f3), .d (.bss h.f5.f4)])]) false (g := .func 72) rfl rfl (lt_ok rfl) rfl (by kernel_rfl) rfl (.cons (.agg (.cons (.d _) (.cons (.d _) (.cons (.d _) (.cons (.d _) (.cons (.d _) .nil)))))) (.cons (.one (.row rfl rfl rfl rfl)) (.cons (.agg (.cons (.d _) (.cons (.d _) (.cons (.d _) (.cons (.d _) (.cons (.d _) .nil)))))) .nil))) (ok_spec_PutQc l (((putVar (putVar (putVar b h.f0) h.f1) h.f2) ++ h.f3) ++ h.f4) h.f5 (by first | omega | assumption | (simp only [List.length_append] at *; omega)) (by assumption) (by assumption)) (.inr rfl) rfl (by simp) rfl) ?_
  refine TL.cons rfl (Step.extract (p := (.one (.row 1034 []))) rfl rfl (lt_ok rfl) rfl rfl) ?_
  refine TL.cons rfl (Step.extract (p := (.one (.d (.bool (qcOk l h.f5))))) rfl rfl (lt_ok rfl) rfl rfl) ?_
  refine TL.cons rfl (Step.assign (p := (.one (.row 1034 []))) rfl rfl (lt_ok rfl) rfl) ?_
  refine TL.cons rfl (Step.assign (p := (.one (.d (.bool (qcOk l h.f5))))) rfl rfl (lt_ok rfl) rfl) ?_
  refine TL.nil ?_
  refine T.weaken (E' := { tm := [(6, (.one (.row 1034 []))), (7, (.one (.d (.bool (qcOk l h.f5)))))], rows := [(1034, (5, (.ints .u8 (putQc l (((putVar (putVar (putVar b h.f0) h.f1) h.f2) ++ h.f3) ++ h.f4) h.f5))))], boxes := [] }) (Env.le_mk ⟨by kernel_rfl, by kernel_rfl, trivial⟩ ⟨by kernel_rfl, trivial⟩ trivial) ?_
  refine T.ret ?_
  exact ⟨[(false, [.row 1034 []]), (false, [.d (.bool (qcOk l h.f5))])], (.cons rfl (.cons rfl .nil)), rfl, [1034], (RetC.own' rfl (by first | rfl | (congr 1; have hq_ := headOk_qc (by assumption); simp only [putQc, putHead, putHeadB, hq_, *, if_true]; done) | (congr 1; have hq_ := headOk_qc (by assumption); unfold putQc putHead putHeadB; rw [if_pos hq_, if_pos (by assumption)]) | (show (putHead l b h).length = 0; unfold putHead; rw [if_neg (by simp [*])]; rfl) | (congr 1; symm; assumption) | (congr 1; have hq_ := headOk_qc (by assumption); rw [hq_]; symm; assumption)) rfl (RetC.rd' (by first | rfl | (congr 1; have hq_ := headOk_qc (by assumption); simp only [putQc, putHead, putHeadB, hq_, *, if_true]; done) | (congr 1; have hq_ := headOk_qc (by assumption); unfold putQc putHead putHeadB; rw [if_pos hq_, if_pos (by assumption)]) | (show (putHead l b h).length = 0; unfold putHead; rw [if_neg (by simp [*])]; rfl) | (congr 1; symm; assumption) | (congr 1; have hq_ := headOk_qc (by assumption); rw [hq_]; symm; assumption)) .nil))⟩
theorem ok_spec_PutProof (l : SLimits) (b : List Int) (p : SProof) (h0_ : b.length ≤ 549755813888) (h1_ : p.ok) (h2_ : p.sm) : RO Try.prog 16 [.agg l.cells, .one (.ints .u8 b), .agg p.cells] [(false, [.own 5 (.ints .u8 (putProof l b p))]), (false, [.rd (.bool (proofOk l p))])] := by
 refine RO.intro Try.func16 rfl 42 rfl (le_ok rfl) fun w Z => ?_
 refine T.bnd 1 0 rfl rfl fun hb_1_0 => ?_
 simp only [D.size, List.length_map] at hb_1_0
 refine T.bnd 2 0 rfl rfl fun hb_2_0 => ?_
 simp only [D.size, List.length_map] at hb_2_0
 refine T.bnd 2 3 rfl rfl fun hb_2_3 => ?_
 simp only [D.size, List.length_map] at hb_2_3
 refine T.bnd 2 4 rfl rfl fun hb_2_4 => ?_
 simp only [D.size, List.length_map] at hb_2_4
 refine T.bnd 2 5 rfl rfl fun hb_2_5 => ?_
 simp only [D.size, List.length_map] at hb_2_5
 obtain ⟨o0, o1⟩ := h1_
 obtain ⟨s0, s1⟩ := h2_
 have hok_ : p.ok := ⟨o0, o1⟩
 have hsm_ : p.sm := ⟨s0, s1⟩
 refine T.seq ?_
 refine T.region ?_
 refine TL.cons rfl (Step.box (p := (.agg [.d (.int .i64 l.f0), .d (.int .i64 l.f1), .d (.int .i64 l.f2), .d (.int .i64 l.f3), .d (.int .i64 l.f4)])) (ps := [.d (.int .i64 l.f0), .d (.int .i64 l.f1), .d (.int .i64 l.f2), .d (.int .i64 l.f3), .d (.int .i64 l.f4)]) rfl rfl (lt_ok rfl) rfl rfl rfl rfl rfl) ?_
 refine TL.cons rfl (Step.box (p := (.agg [.d (.sl 10 (p.f0.map SHead.cells)), .d (.int .i64 p.f1.f0), .d (.int .i64 p.f1.f1), .d (.ints .u8 p.f1.f2), .d (.ints .u8 p.f1.f3), .d (.bss p.f1.f4)])) (ps := [.d (.sl 10 (p.f0.map SHead.cells)), .d (.int .i64 p.f1.f0), .d (.int .i64 p.f1.f1), .d (.ints .u8 p.f1.f2), .d (.ints .u8 p.f1.f3), .d (.bss p.f1.f4)]) rfl rfl (lt_ok rfl) rfl rfl rfl rfl rfl) ?_
 refine TL.cons rfl (Step.assign (p := (.one (.nil))) rfl rfl (lt_ok rfl) rfl) ?_
 refine TL.cons rfl (Step.assign (p := (.one (.d (.bool false)))) rfl rfl (lt_ok rfl) rfl) ?_
 refine TL.nil ?_
 refine T.seq ?_
 refine T.seq ?_
 refine T.region ?_
 refine TL.cons rfl (Step.load_box_agg (n := 5) (qs := [.d (.int .i64 l.f0), .d (.int .i64 l.f1), .d (.int .i64 l.f2), .d (.int .i64 l.f3), .d (.int .i64 l.f4)]) rfl rfl (lt_ok rfl) (by kernel_rfl) rfl rfl rfl rfl) ?_
 refine TL.cons rfl (Step.load_box_agg (n := 6) (qs := [.d (.sl 10 (p.f0.map SHead.cells)), .d (.int .i64 p.f1.f0), .d (.int .i64 p.f1.f1), .d (.ints .u8 p.f1.f2), .d (.ints .u8 p.f1.f3), .d (.bss p.f1.f4)]) rfl rfl (lt_ok rfl) (by kernel_rfl) rfl rfl rfl rfl) ?_
 refine TL.cons rfl (Step.call (f := 69) (xs := [.tmp 11, .tmp 12]) (ps := [(.agg [.d (.int .i64 l.f0), .d (.int .i64 l.f1), .d (.int .i64 l.f2), .d (.int .i64 l.f3), .d (.int .i64 l.f4)]), (.agg [.d (.sl 10 (p.f0.map SHead.cells)), .d (.int .i64 p.f1.f0), .d (.int .i64 p.f1.f1), .d (.ints .u8 p.f1.f2), .d (.ints .u8 p.f1.f3), .d (.bss p.f1.f4)])]) false (g := .func 69) rfl rfl (lt_ok rfl) rfl (by kernel_rfl) rfl (.cons (.agg (.cons (.d _) (.cons (.d _) (.cons (.d _) (.cons (.d _) (.cons (.d _) .nil)))))) (.cons (.agg (.cons (.d _) (.cons (.d _) (.cons (.d _) (.cons (.d _) (.cons (.d _) (.cons (.d _) .nil))))))) .nil)) (ok_spec_ProofOk l p (by assumption) (by assumption)) (.inr rfl) rfl (by simp) rfl) ?_
 refine TL.cons rfl (Step.not (b := (proofOk l p)) rfl rfl (lt_ok rfl) rfl) ?_
 refine TL.nil ?_
 refine T.cond (b := !(proofOk l p)) rfl (fun h1 => ?_) (fun h1 => ?_)
 ·
  replace h1 : (proofOk l p) = false := by simpa only [Bool.not_eq_true', Bool.not_eq_false'] using h1
  refine T.seq ?_
  refine T.region ?_
  refine TL.cons rfl (Step.assign (p := (.one (.nil))) rfl rfl (lt_ok rfl) rfl) ?_
  refine TL.cons rfl (Step.assign (p := (.one (.d (.bool false)))) rfl rfl (lt_ok rfl) rfl) ?_
  refine TL.nil ?_
  refine T.ret ?_
  exact ⟨[(false, [.nil]), (false, [.d (.bool false)])], (.cons rfl (.cons rfl .nil)), rfl, [], (RetC.nilown' rfl (by first | rfl | (congr 1; unfold putProof putProofB; rw [if_pos (by assumption), ← foldl_all putHeadB _ p.f0 i (by omega)]; done) | (congr 1; unfold putProof putProofB; rw [if_pos (by assumption), ← foldl_all putHeadB _ p.f0 i (by omega)]; unfold putQc; rw [if_pos hp4_]) | (show (putProof l b p).length = 0; unfold putProof; rw [if_neg (by simp [*])]; rfl) | (congr 1; symm; assumption) | (congr 1; rw [hp4_]; symm; assumption)) (by first | exact trivial | exact D.wf_nil _) (RetC.rd' (by first | rfl | (congr 1; unfold putProof putProofB; rw [if_pos (by assumption), ← foldl_all putHeadB _ p.f0 i (by omega)]; done) | (congr 1; unfold putProof putProofB; rw [if_pos (by assumption), ← foldl_all putHeadB _ p.f0 i (by omega)]; unfold putQc; rw [if_pos hp4_]) | (show (putProof l b p).length = 0; unfold putProof; rw [if_neg (by simp [*])]; rfl) | (congr 1; symm; assumption) | (congr 1; rw [hp4_]; symm; assumption)) .nil))⟩
 ·
  replace h1 : (proofOk l p) = true := by simpa only [Bool.not_eq_true', Bool.not_eq_false'] using h1
  obtain ⟨hp1_, hp2_, hp3_, hp4_⟩ := proofOk_parts (by first | assumption | simpa using ‹(!(proofOk l p)) = false›)
  refine T.skip ?_
  refine T.seq ?_
  refine T.region ?_
  refine TL.cons rfl (Step.move (p := (.one (.d (.ints .u8 b)))) rfl rfl (lt_ok rfl) rfl) ?_
  refine TL.cons rfl (Step.fieldAddr (q := 0) (off := 0) (n := 1) (one := true) rfl rfl (lt_ok rfl) (by kernel_rfl) (Nat.succ_ne_zero _) rfl) ?_
  refine TL.cons rfl (Step.load_box (c := .d (.sl 10 (p.f0.map SHead.cells))) rfl rfl (lt_ok rfl) (by kernel_rfl) rfl rfl rfl) ?_
  refine TL.cons rfl (Step.len' (e := 54) (z := 10) (d := (.sl 10 (p.f0.map SHead.cells))) (n := p.f0.length) rfl rfl (lt_ok rfl) (by kernel_rfl) rfl rfl (by simp [D.size])) ?_
  have nn2 := putVar_len b (p.f0.length : Int)
  refine TL.cons rfl (Step.call (f := 70) (xs := [.tmp 15, .tmp 18]) (ps := [(.one (.d (.ints .u8 b))), (.one (.d (.int .i64 (p.f0.length : Int))))]) false (g := .func 70) rfl rfl (lt_ok rfl) rfl (by kernel_rfl) rfl (.cons (.one (.d _)) (.cons (.one (.d _)) .nil)) (ok_spec_l11Num b (p.f0.length : Int) (by first | omega | assumption | (simp only [List.length_append] at *; omega))) (.inr rfl) rfl (by simp) rfl) ?_
  refine TL.cons rfl (Step.assign (p := (.one (.row 1019 []))) rfl rfl (lt_ok rfl) rfl) ?_
  refine TL.ren 1019 600001 rfl (by simp) ?_
  refine TL.nil ?_
  refine T.seq ?_
  refine T.seq ?_
  refine T.region ?_
  refine TL.cons rfl (Step.fieldAddr (q := 0) (off := 0) (n := 1) (one := true) rfl rfl (lt_ok rfl) (by kernel_rfl) (Nat.succ_ne_zero _) rfl) ?_
  refine TL.cons rfl (Step.load_box (c := .d (.sl 10 (p.f0.map SHead.cells))) rfl rfl (lt_ok rfl) (by kernel_rfl) rfl rfl rfl) ?_
  refine TL.cons rfl (Step.len' (e := 54) (z := 10) (d := (.sl 10 (p.f0.map SHead.cells))) (n := p.f0.length) rfl rfl (lt_ok rfl) (by kernel_rfl) rfl rfl (by simp [D.size])) ?_
  refine TL.cons rfl (Step.move (p := (.one (.d (.int .i64 0)))) rfl rfl (lt_ok rfl) rfl) ?_
  refine TL.nil ?_
  refine T.block ?_
  refine T.loop (ι := Nat) (fun xx_ => { tm := [(3, (.one (.ptr 3 0))), (5, (.one (.ptr 5 0))), (6, (.one (.nil))), (7, (.one (.d (.bool false)))), (21, (.one (.d (.sl 10 (p.f0.map SHead.cells))))), (22, (.one (.d (.int .i64 (p.f0.length : Int))))), (23, (.one (.d (.int .i64 (xx_ : Int))))), (8, (.one (.row 600001 [])))], rows := [(600001, (5, (.ints .u8 ((p.f0.take xx_).foldl putHeadB (putVar b (p.f0.length : Int))))))], boxes := [(3, (34, [.d (.int .i64 l.f0), .d (.int .i64 l.f1), .d (.int .i64 l.f2), .d (.int .i64 l.f3), .d (.int .i64 l.f4)])), (5, (40, [.d (.sl 10 (p.f0.map SHead.cells)), .d (.int .i64 p.f1.f0), .d (.int .i64 p.f1.f1), .d (.ints .u8 p.f1.f2), .d (.ints .u8 p.f1.f3), .d (.bss p.f1.f4)]))] }) (fun xx_ => xx_ ≤ p.f0.length) (fun xx_ => p.f0.length - xx_) 0 ?_ ?_ ?_
  · exact Env.le_mk ⟨rfl, rfl, rfl, rfl, rfl, rfl, by first | (refine congrArg (fun x => some (_, D.ints .u8 x)) ?_; first | (rw [foldl_take_succ putHeadB _ _ i default (by omega)]; done) | (rw [foldl_take_succ putHeadB _ _ i default (by omega)]; unfold putHead; rw [if_pos (headsOk_at (by omega) hp3_)]) | rfl) | rfl | (refine congrArg (fun n => PV.one (.d (.int .i64 n))) ?_; first | omega | (simp; done)), rfl, trivial⟩ ⟨by first | (refine congrArg (fun x => some (_, D.ints .u8 x)) ?_; first | (rw [foldl_take_succ putHeadB _ _ i default (by omega)]; done) | (rw [foldl_take_succ putHeadB _ _ i default (by omega)]; unfold putHead; rw [if_pos (headsOk_at (by omega) hp3_)]) | rfl) | rfl | (refine congrArg (fun n => PV.one (.d (.int .i64 n))) ?_; first | omega | (simp; done)), trivial⟩ ⟨rfl, rfl, trivial⟩
  · exact Nat.zero_le _
  ·
   intro i hx
   try dsimp only at hx ⊢
   have hw_ := heads_len (b := putVar b (p.f0.length : Int)) hp2_ s0.2 i
   refine T.seq ?_
   refine T.region ?_
   refine TL.cons rfl (Step.bin rfl rfl (lt_ok rfl) rfl rfl (Bin.lss (k := .i64) (a := (i : Int)) (b := (p.f0.length : Int)))) ?_
   refine TL.nil ?_
   refine T.seq ?_
   refine T.cond (b := decide ((i : Int) < (p.f0.length : Int))) rfl (fun h3 => ?_) (fun h3 => ?_)
   ·
    replace h3 := of_decide_eq_true h3
    refine T.skip ?_
    refine T.seq ?_
    refine T.block ?_
    refine T.seq ?_
    refine T.region ?_
    refine TL.cons rfl (Step.index (e := 54) (z := 10) (i := (i : Int)) rfl rfl (lt_ok rfl) (by kernel_rfl) rfl rfl rfl (lt_ok rfl) rfl (by first | omega | (simp only [List.length_append] at *; omega) | (simp; omega)) (by simp only [D.size]; first | omega | (simp only [List.length_append] at *; omega) | (simp; omega))) ?_
    refine TL.cons rfl (Step.load_agg (n := 10) (cs := [.d (.int .i64 (p.f0.getD i default).f0), .d (.int .i64 (p.f0.getD i default).f1), .d (.int .i64 (p.f0.getD i default).f2), .d (.ints .u8 (p.f0.getD i default).f3), .d (.ints .u8 (p.f0.getD i default).f4), .d (.int .i64 (p.f0.getD i default).f5.f0), .d (.int .i64 (p.f0.getD i default).f5.f1), .d (.ints .u8 (p.f0.getD i default).f5.f2), .d (.ints .u8 (p.f0.getD i default).f5.f3), .d (.bss (p.f0.getD i default).f5.f4)]) rfl rfl (lt_ok rfl) (by kernel_rfl) rfl rfl (by simp only [List.range, List.range.loop, List.map_cons, List.map_nil]; rw [cell_map default (by first | omega | (simp only [List.length_append] at *; omega) | (simp; omega)), cell_map default (by first | omega | (simp only [List.length_append] at *; omega) | (simp; omega)), cell_map default (by first | omega | (simp only [List.length_append] at *; omega) | (simp; omega)), cell_map default (by first | omega | (simp only [List.length_append] at *; omega) | (simp; omega)), cell_map default (by first | omega | (simp only [List.length_append] at *; omega) | (simp; omega)), cell_map default (by first | omega | (simp only [List.length_append] at *; omega) | (simp; omega)), cell_map default (by first | omega | (simp only [List.length_append] at *; omega) | (simp; omega)), cell_map default (by first | omega | (simp only [List.length_append] at *; omega) | (simp; omega)), cell_map default (by first | omega | (simp only [List.length_append] at *; omega) | (simp; omega)), cell_map default (by first | omega | (simp only [List.length_append] at *; omega) | (simp; omega))]; rfl)) ?_
    refine TL.cons rfl (Step.alloc (cs := [.int .i64 0, .int .i64 0, .int .i64 0, .slice none 0 0, .slice none 0 0, .int .i64 0, .int .i64 0, .slice none 0 0, .slice none 0 0, .slice none 0 0]) (ps := [.d (.int .i64 0), .d (.int .i64 0), .d (.int .i64 0), .nil, .nil, .d (.int .i64 0), .d (.int .i64 0), .nil, .nil, .nil]) rfl rfl (lt_ok rfl) (by kernel_rfl) rfl rfl rfl rfl) ?_
    refine TL.cons rfl (Step.store_box (n := 10) (p := (.agg [.d (.int .i64 (p.f0.getD i default).f0), .d (.int .i64 (p.f0.getD i default).f1), .d (.int .i64 (p.f0.getD i default).f2), .d (.ints .u8 (p.f0.getD i default).f3), .d (.ints .u8 (p.f0.getD i default).f4), .d (.int .i64 (p.f0.getD i default).f5.f0), .d (.int .i64 (p.f0.getD i default).f5.f1), .d (.ints .u8 (p.f0.getD i default).f5.f2), .d (.ints .u8 (p.f0.getD i default).f5.f3), .d (.bss (p.f0.getD i default).f5.f4)])) (qs := [.d (.int .i64 (p.f0.getD i default).f0), .d (.int .i64 (p.f0.getD i default).f1), .d (.int .i64 (p.f0.getD i default).f2), .d (.ints .u8 (p.f0.getD i default).f3), .d (.ints .u8 (p.f0.getD i default).f4), .d (.int .i64 (p.f0.getD i default).f5.f0), .d (.int .i64 (p.f0.getD i default).f5.f1), .d (.ints .u8 (p.f0.getD i default).f5.f2), .d (.ints .u8 (p.f0.getD i default).f5.f3), .d (.bss (p.f0.getD i default).f5.f4)]) (ps' := [.d (.int .i64 (p.f0.getD i default).f0), .d (.int .i64 (p.f0.getD i default).f1), .d (.int .i64 (p.f0.getD i default).f2), .d (.ints .u8 (p.f0.getD i default).f3), .d (.ints .u8 (p.f0.getD i default).f4), .d (.int .i64 (p.f0.getD i default).f5.f0), .d (.int .i64 (p.f0.getD i default).f5.f1), .d (.ints .u8 (p.f0.getD i default).f5.f2), .d (.ints .u8 (p.f0.getD i default).f5.f3), .d (.bss (p.f0.getD i default).f5.f4)]) rfl rfl (by kernel_rfl) rfl rfl rfl rfl rfl rfl (le_ok rfl) rfl) ?_
    refine TL.nil ?_
    refine T.region ?_
    refine TL.cons rfl (Step.load_box_agg (n := 5) (qs := [.d (.int .i64 l.f0), .d (.int .i64 l.f1), .d (.int .i64 l.f2), .d (.int .i64 l.f3), .d (.int .i64 l.f4)]) rfl rfl (lt_ok rfl) (by kernel_rfl) rfl rfl rfl rfl) ?_
    refine TL.cons rfl (Step.move (p := (.one (.row 600001 []))) rfl rfl (lt_ok rfl) rfl) ?_
    refine TL.cons rfl (Step.load_box_agg (n := 10) (qs := [.d (.int .i64 (p.f0.getD i default).f0), .d (.int .i64 (p.f0.getD i default).f1), .d (.int .i64 (p.f0.getD i default).f2), .d (.ints .u8 (p.f0.getD i default).f3), .d (.ints .u8 (p.f0.getD i default).f4), .d (.int .i64 (p.f0.getD i default).f5.f0), .d (.int .i64 (p.f0.getD i default).f5.f1), .d (.ints .u8 (p.f0.getD i default).f5.f2), .d (.ints .u8 (p.f0.getD i default).f5.f3), .d (.bss (p.f0.getD i default).f5.f4)]) rfl rfl (lt_ok rfl) (by kernel_rfl) rfl rfl rfl rfl) ?_
    have nn4 := @putHead_len l ((p.f0.take i).foldl putHeadB (putVar b (p.f0.length : Int))) (p.f0.getD i default) (by first | assumption | exact mem_getD s0.2 (by omega))
    refine TL.cons rfl (Step.call (f := 71) (xs := [.tmp 28, .tmp 29, .tmp 30]) (ps := [(.agg [.d (.int .i64 l.f0), .d (.int .i64 l.f1), .d (.int .i64 l.f2), .d (.int .i64 l.f3), .d (.int .i64 l.f4)]), (.one (.row 600001 [])), (.agg [.d (.int .i64 (p.f0.getD i default).f0), .d (.int .i64 (p.f0.getD i default).f1), .d (.int .i64 (p.f0.getD i default).f2), .d (.ints .u8 (p.f0.getD i default).f3), .d (.ints .u8 (p.f0.getD i default).f4), .d (.int .i64 (p.f0.getD i default).f5.f0), .d (.int .i64 (p.f0.getD i default).f5.f1), .d (.ints .u8 (p.f0.getD i default).f5.f2), .d (.ints .u8 (p.f0.getD i default).f5.f3), .d (.bss (p.f0.getD i default).f5.f4)])]) false (g := .func 71) rfl rfl (lt_ok rfl) rfl (by kernel_rfl) rfl (.cons (.agg (.cons (.d _) (.cons (.d _) (.cons (.d _) (.cons (.d _) (.cons (.d _) .nil)))))) (.cons (.one (.row rfl rfl rfl rfl)) (.cons (.agg (.cons (.d _) (.cons (.d _) (.cons (.d _) (.cons (.d _) (.cons (.d _) (.cons (.d _) (.cons (.d _) (.cons (.d _) (.cons (.d _) (.cons (.d _) .nil))))))))))) .nil))) (ok_spec_PutHead l ((p.f0.take i).foldl putHeadB (putVar b (p.f0.length : Int))) (p.f0.getD i default) (by first | omega | assumption | (simp only [List.length_append] at *; omega)) (by first | assumption | exact mem_getD o0 (by omega)) (by first | assumption | exact mem_getD s0.2 (by omega))) (.inr rfl) rfl (by simp) rfl) ?_
    refine TL.cons rfl (Step.move (p := (.tup [(false, [.row 1031 []]), (false, [.d (.bool (headOk l (p.f0.getD i default)))])])) rfl rfl (lt_ok rfl) rfl) ?_
    refine TL.cons rfl (Step.extract (p := (.one (.row 1031 []))) rfl rfl (lt_ok rfl) rfl rfl) ?_
    refine TL.cons rfl (Step.extract (p := (.one (.d (.bool (headOk l (p.f0.getD i default)))))) rfl rfl (lt_ok rfl) rfl rfl) ?_
    refine TL.cons rfl (Step.assign (p := (.one (.row 1031 []))) rfl rfl (lt_ok rfl) rfl) ?_
    refine TL.weaken (Env.drops_le [600001] _) ?_
    refine TL.ren 1031 600001 rfl (by simp) ?_
    refine TL.nil ?_
    refine T.region ?_
    refine TL.cons rfl (Step.bin (r := .int .i64 ((i : Int) + 1)) rfl rfl (lt_ok rfl) rfl rfl (Bin.add (a := (i : Int)) (b := 1) (by first | exact wrap_ok (by first | omega | (simp only [List.length_append] at *; omega) | (simp; omega)) (by first | omega | (simp only [List.length_append] at *; omega) | (simp; omega)) | rfl))) ?_
    refine TL.cons rfl (Step.move (p := (.one (.d (.int .i64 ((i : Int) + 1))))) rfl rfl (lt_ok rfl) rfl) ?_
    refine TL.nil ?_
    exact ⟨i + 1, by omega, by first | omega | (dsimp only; omega), Env.le_mk ⟨rfl, rfl, rfl, rfl, rfl, rfl, by first | (refine congrArg (fun x => some (_, D.ints .u8 x)) ?_; first | (rw [foldl_take_succ putHeadB _ _ i default (by omega)]; done) | (rw [foldl_take_succ putHeadB _ _ i default (by omega)]; unfold putHead; rw [if_pos (headsOk_at (by omega) hp3_)]) | rfl) | rfl | (refine congrArg (fun n => PV.one (.d (.int .i64 n))) ?_; first | omega | (simp; done)), rfl, trivial⟩ ⟨by first | (refine congrArg (fun x => some (_, D.ints .u8 x)) ?_; first | (rw [foldl_take_succ putHeadB _ _ i default (by omega)]; done) | (rw [foldl_take_succ putHeadB _ _ i default (by omega)]; unfold putHead; rw [if_pos (headsOk_at (by omega) hp3_)]) | rfl) | rfl | (refine congrArg (fun n => PV.one (.d (.int .i64 n))) ?_; first | omega | (simp; done)), trivial⟩ ⟨rfl, rfl, trivial⟩⟩
   ·
    replace h3 := of_decide_eq_false h3
    refine T.exit ?_
    refine T.seq ?_
    refine T.region ?_
    refine TL.cons rfl (Step.load_box_agg (n := 5) (qs := [.d (.int .i64 l.f0), .d (.int .i64 l.f1), .d (.int .i64 l.f2), .d (.int .i64 l.f3), .d (.int .i64 l.f4)]) rfl rfl (lt_ok rfl) (by kernel_rfl) rfl rfl rfl rfl) ?_
    refine TL.cons rfl (Step.move (p := (.one (.row 600001 []))) rfl rfl (lt_ok rfl) rfl) ?_
    refine TL.cons rfl (Step.fieldAddr (q := 0) (off := 1) (n := 5) (one := false) rfl rfl (lt_ok rfl) (by kernel_rfl) (Nat.succ_ne_zero _) rfl) ?_
    refine TL.cons rfl (Step.load_box_agg (n := 5) (qs := [.d (.int .i64 p.f1.f0), .d (.int .i64 p.f1.f1), .d (.ints .u8 p.f1.f2), .d (.ints .u8 p.f1.f3), .d (.bss p.f1.f4)]) rfl rfl (lt_ok rfl) (by kernel_rfl) rfl rfl rfl rfl) ?_
    have nn5 := @putQc_len l ((p.f0.take i).foldl putHeadB (putVar b (p.f0.length : Int))) p.f1 (by assumption)
    refine TL.cons rfl (Step.call (f := 72) (xs := [.tmp 35, .tmp 36, .tmp 38]) (ps := [(.agg [.d (.int .i64 l.f0), .d (.int .i64 l.f1), .d (.int .i64 l.f2), .d (.int .i64 l.f3), .d (.int .i64 l.f4)]), (.one (.row 600001 [])), (.agg [.d (.int .i64 p.f1.f0), .d (.int .i64 p.f1.f1), .d (.ints .u8 p.f1.f2), .d (.ints .u8 p.f1.f3), .d (.bss p.f1.f4)])]) false (g := .func 72) rfl rfl (lt_ok rfl) rfl (by kernel_rfl) rfl (.cons (.agg (.cons (.d _) (.cons (.d _) (.cons (.d _) (.cons (.d _) (.cons (.d _) .nil)))))) (.cons (.one (.row rfl rfl rfl rfl)) (.cons (.agg (.cons (.d _) (.cons (.d _) (.cons (.d _) (.cons (.d _) (.cons (.d _) .nil)))))) .nil))) (ok_spec_PutQc l ((p.f0.take i).foldl putHeadB (putVar b (p.f0.length : Int))) p.f1 (by first | omega | assumption | (simp only [List.length_append] at *; omega)) (by assumption) (by assumption)) (.inr rfl) rfl (by simp) rfl) ?_
    refine TL.cons rfl (Step.extract (p := (.one (.row 1039 []))) rfl rfl (lt_ok rfl) rfl rfl) ?_
    refine TL.cons rfl (Step.extract (p := (.one (.d (.bool (qcOk l p.f1))))) rfl rfl (lt_ok rfl) rfl rfl) ?_
    refine TL.cons rfl (Step.assign (p := (.one (.row 1039 []))) rfl rfl (lt_ok rfl) rfl) ?_
    refine TL.cons rfl (Step.assign (p := (.one (.d (.bool (qcOk l p.f1))))) rfl rfl (lt_ok rfl) rfl) ?_
    refine TL.nil ?_
    refine T.ret ?_
    exact ⟨[(false, [.row 1039 []]), (false, [.d (.bool (qcOk l p.f1))])], (.cons rfl (.cons rfl .nil)), rfl, [1039], (RetC.own' rfl (by first | rfl | (congr 1; unfold putProof putProofB; rw [if_pos (by assumption), ← foldl_all putHeadB _ p.f0 i (by omega)]; done) | (congr 1; unfold putProof putProofB; rw [if_pos (by assumption), ← foldl_all putHeadB _ p.f0 i (by omega)]; unfold putQc; rw [if_pos hp4_]) | (show (putProof l b p).length = 0; unfold putProof; rw [if_neg (by simp [*])]; rfl) | (congr 1; symm; assumption) | (congr 1; rw [hp4_]; symm; assumption)) rfl (RetC.rd' (by first | rfl | (congr 1; unfold putProof putProofB; rw [if_pos (by assumption), ← foldl_all putHeadB _ p.f0 i (by omega)]; done) | (congr 1; unfold putProof putProofB; rw [if_pos (by assumption), ← foldl_all putHeadB _ p.f0 i (by omega)]; unfold putQc; rw [if_pos hp4_]) | (show (putProof l b p).length = 0; unfold putProof; rw [if_neg (by simp [*])]; rfl) | (congr 1; symm; assumption) | (congr 1; rw [hp4_]; symm; assumption)) .nil))⟩
theorem ok_laws_toLimits (a : SLimits) : RO Try.prog 17 [.agg a.cells] [(true, [.rd (.int .i64 a.f0), .rd (.int .i64 a.f1), .rd (.int .i64 a.f2), .rd (.int .i64 a.f3), .rd (.int .i64 a.f4)])] := by
 refine RO.intro Try.func17 rfl 20 rfl (le_ok rfl) fun w Z => ?_
 refine T.seq ?_
 refine T.region ?_
 refine TL.cons rfl (Step.box (p := (.agg [.d (.int .i64 a.f0), .d (.int .i64 a.f1), .d (.int .i64 a.f2), .d (.int .i64 a.f3), .d (.int .i64 a.f4)])) (ps := [.d (.int .i64 a.f0), .d (.int .i64 a.f1), .d (.int .i64 a.f2), .d (.int .i64 a.f3), .d (.int .i64 a.f4)]) rfl rfl (lt_ok rfl) rfl rfl rfl rfl rfl) ?_
 refine TL.cons rfl (Step.alloc (cs := [.int .i64 0, .int .i64 0, .int .i64 0, .int .i64 0, .int .i64 0]) (ps := [.d (.int .i64 0), .d (.int .i64 0), .d (.int .i64 0), .d (.int .i64 0), .d (.int .i64 0)]) rfl rfl (lt_ok rfl) (by kernel_rfl) rfl rfl rfl rfl) ?_
 refine TL.nil ?_
 refine T.seq ?_
 refine T.region ?_
 refine TL.cons rfl (Step.alloc (cs := [.int .i64 0, .int .i64 0, .int .i64 0, .int .i64 0, .int .i64 0]) (ps := [.d (.int .i64 0), .d (.int .i64 0), .d (.int .i64 0), .d (.int .i64 0), .d (.int .i64 0)]) rfl rfl (lt_ok rfl) (by kernel_rfl) rfl rfl rfl rfl) ?_
 refine TL.nil ?_
 refine T.seq ?_
 refine T.region ?_
 refine TL.cons rfl (Step.fieldAddr (q := 0) (off := 0) (n := 1) (one := true) rfl rfl (lt_ok rfl) (by kernel_rfl) (Nat.succ_ne_zero _) rfl) ?_
 refine TL.cons rfl (Step.load_box (c := .d (.int .i64 a.f0)) rfl rfl (lt_ok rfl) (by kernel_rfl) rfl rfl rfl) ?_
 refine TL.cons rfl (Step.fieldAddr (q := 0) (off := 0) (n := 1) (one := true) rfl rfl (lt_ok rfl) (by kernel_rfl) (Nat.succ_ne_zero _) rfl) ?_
 refine TL.cons rfl (Step.store_box (n := 1) (p := (.one (.d (.int .i64 a.f0)))) (qs := [.d (.int .i64 a.f0)]) (ps' := [.d (.int .i64 a.f0), .d (.int .i64 0), .d (.int .i64 0), .d (.int .i64 0), .d (.int .i64 0)]) rfl rfl (by kernel_rfl) rfl rfl rfl rfl rfl rfl (le_ok rfl) rfl) ?_
 refine TL.nil ?_
 refine T.seq ?_
 refine T.region ?_
 refine TL.cons rfl (Step.fieldAddr (q := 0) (off := 1) (n := 1) (one := true) rfl rfl (lt_ok rfl) (by kernel_rfl) (Nat.succ_ne_zero _) rfl) ?_
 refine TL.cons rfl (Step.load_box (c := .d (.int .i64 a.f1)) rfl rfl (lt_ok rfl) (by kernel_rfl) rfl rfl rfl) ?_
 refine TL.cons rfl (Step.fieldAddr (q := 0) (off := 1) (n := 1) (one := true) rfl rfl (lt_ok rfl) (by kernel_rfl) (Nat.succ_ne_zero _) rfl) ?_
 refine TL.cons rfl (Step.store_box (n := 1) (p := (.one (.d (.int .i64 a.f1)))) (qs := [.d (.int .i64 a.f1)]) (ps' := [.d (.int .i64 a.f0), .d (.int .i64 a.f1), .d (.int .i64 0), .d (.int .i64 0), .d (.int .i64 0)]) rfl rfl (by kernel_rfl) rfl rfl rfl rfl rfl rfl (le_ok rfl) rfl) ?_
 refine TL.nil ?_
 refine T.seq ?_
 refine T.region ?_
 refine TL.cons rfl (Step.fieldAddr (q := 0) (off := 2) (n := 1) (one := true) rfl rfl (lt_ok rfl) (by kernel_rfl) (Nat.succ_ne_zero _) rfl) ?_
 refine TL.cons rfl (Step.load_box (c := .d (.int .i64 a.f2)) rfl rfl (lt_ok rfl) (by kernel_rfl) rfl rfl rfl) ?_
 refine TL.cons rfl (Step.fieldAddr (q := 0) (off := 2) (n := 1) (one := true) rfl rfl (lt_ok rfl) (by kernel_rfl) (Nat.succ_ne_zero _) rfl) ?_
 refine TL.cons rfl (Step.store_box (n := 1) (p := (.one (.d (.int .i64 a.f2)))) (qs := [.d (.int .i64 a.f2)]) (ps' := [.d (.int .i64 a.f0), .d (.int .i64 a.f1), .d (.int .i64 a.f2), .d (.int .i64 0), .d (.int .i64 0)]) rfl rfl (by kernel_rfl) rfl rfl rfl rfl rfl rfl (le_ok rfl) rfl) ?_
 refine TL.nil ?_
 refine T.seq ?_
 refine T.region ?_
 refine TL.cons rfl (Step.fieldAddr (q := 0) (off := 3) (n := 1) (one := true) rfl rfl (lt_ok rfl) (by kernel_rfl) (Nat.succ_ne_zero _) rfl) ?_
 refine TL.cons rfl (Step.load_box (c := .d (.int .i64 a.f3)) rfl rfl (lt_ok rfl) (by kernel_rfl) rfl rfl rfl) ?_
 refine TL.cons rfl (Step.fieldAddr (q := 0) (off := 3) (n := 1) (one := true) rfl rfl (lt_ok rfl) (by kernel_rfl) (Nat.succ_ne_zero _) rfl) ?_
 refine TL.cons rfl (Step.store_box (n := 1) (p := (.one (.d (.int .i64 a.f3)))) (qs := [.d (.int .i64 a.f3)]) (ps' := [.d (.int .i64 a.f0), .d (.int .i64 a.f1), .d (.int .i64 a.f2), .d (.int .i64 a.f3), .d (.int .i64 0)]) rfl rfl (by kernel_rfl) rfl rfl rfl rfl rfl rfl (le_ok rfl) rfl) ?_
 refine TL.nil ?_
 refine T.seq ?_
 refine T.region ?_
 refine TL.cons rfl (Step.fieldAddr (q := 0) (off := 4) (n := 1) (one := true) rfl rfl (lt_ok rfl) (by kernel_rfl) (Nat.succ_ne_zero _) rfl) ?_
 refine TL.cons rfl (Step.load_box (c := .d (.int .i64 a.f4)) rfl rfl (lt_ok rfl) (by kernel_rfl) rfl rfl rfl) ?_
 refine TL.cons rfl (Step.fieldAddr (q := 0) (off := 4) (n := 1) (one := true) rfl rfl (lt_ok rfl) (by kernel_rfl) (Nat.succ_ne_zero _) rfl) ?_
 refine TL.cons rfl (Step.store_box (n := 1) (p := (.one (.d (.int .i64 a.f4)))) (qs := [.d (.int .i64 a.f4)]) (ps' := [.d (.int .i64 a.f0), .d (.int .i64 a.f1), .d (.int .i64 a.f2), .d (.int .i64 a.f3), .d (.int .i64 a.f4)]) rfl rfl (by kernel_rfl) rfl rfl rfl rfl rfl rfl (le_ok rfl) rfl) ?_
 refine TL.nil ?_
 refine T.seq ?_
 refine T.region ?_
 refine TL.cons rfl (Step.load_box_agg (n := 5) (qs := [.d (.int .i64 a.f0), .d (.int .i64 a.f1), .d (.int .i64 a.f2), .d (.int .i64 a.f3), .d (.int .i64 a.f4)]) rfl rfl (lt_ok rfl) (by kernel_rfl) rfl rfl rfl rfl) ?_
 refine TL.cons rfl (Step.store_box (n := 5) (p := (.agg [.d (.int .i64 a.f0), .d (.int .i64 a.f1), .d (.int .i64 a.f2), .d (.int .i64 a.f3), .d (.int .i64 a.f4)])) (qs := [.d (.int .i64 a.f0), .d (.int .i64 a.f1), .d (.int .i64 a.f2), .d (.int .i64 a.f3), .d (.int .i64 a.f4)]) (ps' := [.d (.int .i64 a.f0), .d (.int .i64 a.f1), .d (.int .i64 a.f2), .d (.int .i64 a.f3), .d (.int .i64 a.f4)]) rfl rfl (by kernel_rfl) rfl rfl rfl rfl rfl rfl (le_ok rfl) rfl) ?_
 refine TL.nil ?_
 refine T.ret ?_
 exact ⟨[(true, [.d (.int .i64 a.f0), .d (.int .i64 a.f1), .d (.int .i64 a.f2), .d (.int .i64 a.f3), .d (.int .i64 a.f4)])], (.cons rfl .nil), rfl, [], (RetC.rd' (by rfl) (RetC.rd' (by rfl) (RetC.rd' (by rfl) (RetC.rd' (by rfl) (RetC.rd' (by rfl) .nil)))))⟩
theorem ok_laws_toByteS (a : List Int) (h0_ : a.length ≤ 1048576) : RO Try.prog 18 [.one (.ints .u8 a)] [(false, [.own 5 (.ints .u8 a)])] := by
 refine RO.intro Try.func18 rfl 22 rfl (le_ok rfl) fun w Z => ?_
 refine T.bnd 0 0 rfl rfl fun hb_0_0 => ?_
 simp only [D.size, List.length_map] at hb_0_0
 have h0b := h0_
 refine T.seq ?_
 refine T.region ?_
 refine TL.cons rfl (Step.assign (p := (.one (.nil))) rfl rfl (lt_ok rfl) rfl) ?_
 refine TL.nil ?_
 refine T.seq ?_
 refine T.region ?_
 refine TL.cons rfl (Step.move (p := (.one (.d (.ints .u8 a)))) rfl rfl (lt_ok rfl) rfl) ?_
 refine TL.cons rfl (Step.len (e := 5) (z := 1) (d := (.ints .u8 a)) rfl rfl (lt_ok rfl) (by kernel_rfl) rfl rfl) ?_
 refine TL.cons rfl (Step.make (e := 5) (z := 1) (by_ := 1) (n := (a.length : Int)) (zs := [.int .u8 0]) (zd := [.int .u8 0]) (d := (.ints .u8 (List.replicate a.length 0))) rfl rfl (lt_ok rfl) (by kernel_rfl) (lt_ok rfl) rfl (by first | omega | (simp; omega)) (by first | omega | (simp; omega)) (by first | omega | (simp; omega)) (by kernel_rfl) (.val rfl .nil) rfl (by simp) (by simp [D.flat, List.flatten_replicate_singleton]) (by simp [D.size]) rfl trivial) ?_
 refine TL.cons rfl (Step.assign (p := (.one (.row 7 []))) rfl rfl (lt_ok rfl) rfl) ?_
 refine TL.nil ?_
 refine T.seq ?_
 refine T.seq ?_
 refine T.region ?_
 refine TL.cons rfl (Step.assign (p := (.one (.d (.int .i64 0)))) rfl rfl (lt_ok rfl) rfl) ?_
 refine TL.nil ?_
 refine T.block ?_
 refine T.loop (ι := Nat) (fun xx_ => { tm := [(0, (.one (.d (.ints .u8 a)))), (2, (.one (.nil))), (3, (.one (.row 7 []))), (4, (.one (.d (.int .i64 (xx_ : Int)))))], rows := [(7, (5, (.ints .u8 (a.take xx_ ++ List.replicate (a.length - xx_) 0 : List Int))))], boxes := [] }) (fun xx_ => xx_ ≤ a.length) (fun xx_ => a.length - xx_) 0 ?_ ?_ ?_
 · exact Env.le_mk ⟨rfl, rfl, rfl, by first | rfl | exact congrArg (fun x => some (5, ((.ints .u8 x) : D))) (fill_set a 0 0 i (by omega)), trivial⟩ ⟨by first | rfl | exact congrArg (fun x => some (5, ((.ints .u8 x) : D))) (fill_set a 0 0 i (by omega)), trivial⟩ trivial
 · exact Nat.zero_le _
 ·
  intro i hx
  try dsimp only at hx ⊢
  refine T.seq ?_
  refine T.seq ?_
  refine T.region ?_
  refine TL.cons rfl (Step.move (p := (.one (.d (.int .i64 (i : Int))))) rfl rfl (lt_ok rfl) rfl) ?_
  refine TL.cons rfl (Step.move (p := (.one (.d (.ints .u8 a)))) rfl rfl (lt_ok rfl) rfl) ?_
  refine TL.cons rfl (Step.len (e := 5) (z := 1) (d := (.ints .u8 a)) rfl rfl (lt_ok rfl) (by kernel_rfl) rfl rfl) ?_
  refine TL.cons rfl (Step.bin rfl rfl (lt_ok rfl) rfl rfl (Bin.lss (k := .i64) (a := (i : Int)) (b := (a.length : Int)))) ?_
  refine TL.nil ?_
  refine T.cond (b := decide ((i : Int) < (a.length : Int))) rfl (fun h1 => ?_) (fun h1 => ?_)
  ·
   replace h1 := of_decide_eq_true h1
   refine T.skip ?_
   refine T.seq ?_
   refine T.block ?_
   refine T.region ?_
   refine TL.cons rfl (Step.move (p := (.one (.row 7 []))) rfl rfl (lt_ok rfl) rfl) ?_
   refine TL.cons rfl (Step.move (p := (.one (.d (.int .i64 (i : Int))))) rfl rfl (lt_ok rfl) rfl) ?_
   refine TL.cons rfl (Step.move (p := (.one (.d (.ints .u8 a)))) rfl rfl (lt_ok rfl) rfl) ?_
   refine TL.cons rfl (Step.move (p := (.one (.d (.int .i64 (i : Int))))) rfl rfl (lt_ok rfl) rfl) ?_
   refine TL.cons rfl (Step.index (e := 5) (z := 1) (i := (i : Int)) rfl rfl (lt_ok rfl) (by kernel_rfl) rfl rfl rfl (lt_ok rfl) rfl (by first | omega | (simp; omega)) (by simp only [D.size]; first | omega | (simp; omega))) ?_
   refine TL.cons rfl (Step.load (e := (.int .u8 (a.getD i 0))) rfl rfl (lt_ok rfl) (by kernel_rfl) rfl rfl) ?_
   refine TL.cons rfl (Step.index_row (e := 5) (z := 1) (i := (i : Int)) rfl rfl (lt_ok rfl) (by kernel_rfl) rfl rfl rfl rfl (lt_ok rfl) rfl (by first | omega | (simp; omega)) (by simp only [D.at_, D.cell, D.size]; first | omega | (simp; omega))) ?_
   refine TL.cons rfl (Step.store_row (n := 1) (p := (.one (.d (.int .u8 (a.getD i 0))))) (ps := [.d (.int .u8 (a.getD i 0))]) (es := [(.int .u8 (a.getD i 0))]) (ss := []) (d1 := (.ints .u8 ((a.take i ++ List.replicate (a.length - i) 0 : List Int).set i (a.getD i 0)))) (d' := (.ints .u8 ((a.take i ++ List.replicate (a.length - i) 0 : List Int).set i (a.getD i 0)))) rfl rfl (by kernel_rfl) rfl rfl rfl rfl rfl rfl (.val rfl .nil) (by simp) (Putd.one rfl trivial rfl (by simp only [D.at_, D.size, List.length_set, upTo_length]; first | omega | (simp; omega)) (lt_ok rfl)) rfl) ?_
   refine TL.nil ?_
   refine T.region ?_
   refine TL.cons rfl (Step.move (p := (.one (.d (.int .i64 (i : Int))))) rfl rfl (lt_ok rfl) rfl) ?_
   refine TL.cons rfl (Step.bin (r := .int .i64 ((i : Int) + 1)) rfl rfl (lt_ok rfl) rfl rfl (Bin.add (a := (i : Int)) (b := 1) (by first | exact wrap_ok (by first | omega | (simp; omega)) (by first | omega | (simp; omega)) | rfl))) ?_
   refine TL.cons rfl (Step.assign (p := (.one (.d (.int .i64 ((i : Int) + 1))))) rfl rfl (lt_ok rfl) rfl) ?_
   refine TL.nil ?_
   exact ⟨i + 1, by omega, by omega, Env.le_mk ⟨rfl, rfl, rfl, by first | rfl | exact congrArg (fun x => some (5, ((.ints .u8 x) : D))) (fill_set a 0 0 i (by omega)), trivial⟩ ⟨by first | rfl | exact congrArg (fun x => some (5, ((.ints .u8 x) : D))) (fill_set a 0 0 i (by omega)), trivial⟩ trivial⟩
  ·
   replace h1 := of_decide_eq_false h1
   refine T.exit ?_
   refine T.seq ?_
   refine T.region ?_
   refine TL.cons rfl (Step.move (p := (.one (.row 7 []))) rfl rfl (lt_ok rfl) rfl) ?_
   refine TL.cons rfl (Step.assign (p := (.one (.row 7 []))) rfl rfl (lt_ok rfl) rfl) ?_
   refine TL.nil ?_
   refine T.ret ?_
   exact ⟨[(false, [.row 7 []])], (.cons rfl .nil), rfl, [7], (RetC.own' rfl (by first | rfl | (congr 1; rw [fill_all' _ _ _ (by omega)]) | (rw [fill_all' _ _ _ (by omega)])) rfl .nil)⟩
theorem ok_laws_toByteSS (a : List (List Int)) (h0_ : a.length ≤ 1048576 ∧ ∀ y ∈ a, y.length ≤ 1048576) : RO Try.prog 56 [.one (.bss a)] [(false, [.own 24 (.bss a)])] := by
 refine RO.intro Try.func56 rfl 23 rfl (le_ok rfl) fun w Z => ?_
 refine T.bnd 0 0 rfl rfl fun hb_0_0 => ?_
 simp only [D.size, List.length_map] at hb_0_0
 have h0b := h0_.1
 refine T.seq ?_
 refine T.region ?_
 refine TL.cons rfl (Step.assign (p := (.one (.nil))) rfl rfl (lt_ok rfl) rfl) ?_
 refine TL.nil ?_
 refine T.seq ?_
 refine T.region ?_
 refine TL.cons rfl (Step.move (p := (.one (.d (.bss a)))) rfl rfl (lt_ok rfl) rfl) ?_
 refine TL.cons rfl (Step.len (e := 24) (z := 1) (d := (.bss a)) rfl rfl (lt_ok rfl) (by kernel_rfl) rfl rfl) ?_
 refine TL.cons rfl (Step.make (e := 24) (z := 1) (by_ := 24) (n := (a.length : Int)) (zs := [.slice none 0 0]) (zd := [.ints .u8 []]) (d := (.bss (List.replicate a.length []))) rfl rfl (lt_ok rfl) (by kernel_rfl) (lt_ok rfl) rfl (by first | omega | (simp; omega)) (by first | omega | (simp; omega)) (by first | omega | (simp; omega)) (by kernel_rfl) (.empty rfl rfl trivial .nil) rfl (by simp) (by simp [D.flat, List.flatten_replicate_singleton]) (by simp [D.size]) rfl trivial) ?_
 refine TL.cons rfl (Step.assign (p := (.one (.row 7 []))) rfl rfl (lt_ok rfl) rfl) ?_
 refine TL.nil ?_
 refine T.seq ?_
 refine T.seq ?_
 refine T.region ?_
 refine TL.cons rfl (Step.assign (p := (.one (.d (.int .i64 0)))) rfl rfl (lt_ok rfl) rfl) ?_
 refine TL.nil ?_
 refine T.block ?_
 refine T.loop (ι := Nat) (fun xx_ => { tm := [(0, (.one (.d (.bss a)))), (2, (.one (.nil))), (3, (.one (.row 7 []))), (4, (.one (.d (.int .i64 (xx_ : Int)))))], rows := [(7, (24, (.bss (a.take xx_ ++ List.replicate (a.length - xx_) [] : List (List Int)))))], boxes := [] }) (fun xx_ => xx_ ≤ a.length) (fun xx_ => a.length - xx_) 0 ?_ ?_ ?_
 · exact Env.le_mk ⟨rfl, rfl, rfl, by first | rfl | exact congrArg (fun x => some (24, ((.bss x) : D))) (fill_set a [] [] i (by omega)), trivial⟩ ⟨by first | rfl | exact congrArg (fun x => some (24, ((.bss x) : D))) (fill_set a [] [] i (by omega)), trivial⟩ trivial
 · exact Nat.zero_le _
 ·
  intro i hx
  try dsimp only at hx ⊢
  refine T.seq ?_
  refine T.seq ?_
  refine T.region ?_
  refine TL.cons rfl (Step.move (p := (.one (.d (.int .i64 (i : Int))))) rfl rfl (lt_ok rfl) rfl) ?_
  refine TL.cons rfl (Step.move (p := (.one (.d (.bss a)))) rfl rfl (lt_ok rfl) rfl) ?_
  refine TL.cons rfl (Step.len (e := 24) (z := 1) (d := (.bss a)) rfl rfl (lt_ok rfl) (by kernel_rfl) rfl rfl) ?_
  refine TL.cons rfl (Step.bin rfl rfl (lt_ok rfl) rfl rfl (Bin.lss (k := .i64) (a := (i : Int)) (b := (a.length : Int)))) ?_
  refine TL.nil ?_
  refine T.cond (b := decide ((i : Int) < (a.length : Int))) rfl (fun h1 => ?_) (fun h1 => ?_)
  ·
   replace h1 := of_decide_eq_true h1
   refine T.skip ?_
   refine T.seq ?_
   refine T.block ?_
   refine T.region ?_
   refine TL.cons rfl (Step.move (p := (.one (.row 7 []))) rfl rfl (lt_ok rfl) rfl) ?_
   refine TL.cons rfl (Step.move (p := (.one (.d (.int .i64 (i : Int))))) rfl rfl (lt_ok rfl) rfl) ?_
   refine TL.cons rfl (Step.move (p := (.one (.d (.bss a)))) rfl rfl (lt_ok rfl) rfl) ?_
   refine TL.cons rfl (Step.move (p := (.one (.d (.int .i64 (i : Int))))) rfl rfl (lt_ok rfl) rfl) ?_
   refine TL.cons rfl (Step.index (e := 24) (z := 1) (i := (i : Int)) rfl rfl (lt_ok rfl) (by kernel_rfl) rfl rfl rfl (lt_ok rfl) rfl (by first | omega | (simp; omega)) (by simp only [D.size]; first | omega | (simp; omega))) ?_
   refine TL.cons rfl (Step.load (e := (.ints .u8 (a.getD i []))) rfl rfl (lt_ok rfl) (by kernel_rfl) rfl rfl) ?_
   refine TL.cons rfl (Step.call (f := 18) (xs := [.tmp 19]) (ps := [(.one (.d (.ints .u8 (a.getD i []))))]) false (g := .func 18) rfl rfl (lt_ok rfl) rfl (by kernel_rfl) rfl (.cons (.one (.d _)) .nil) (ok_laws_toByteS (a.getD i []) (by first | omega | assumption | exact mem_getD h0_.2 (by omega))) (.inr rfl) rfl (by simp) rfl) ?_
   refine TL.cons rfl (Step.index_row (e := 24) (z := 1) (i := (i : Int)) rfl rfl (lt_ok rfl) (by kernel_rfl) rfl rfl rfl rfl (lt_ok rfl) rfl (by first | omega | (simp; omega)) (by simp only [D.at_, D.cell, D.size]; first | omega | (simp; omega))) ?_
   refine TL.cons rfl (Step.store_row (n := 1) (p := (.one (.row 1020 []))) (ps := [.row 1020 []]) (es := [(.ints .u8 (a.getD i []))]) (ss := [1020]) (d1 := (.bss ((a.take i ++ List.replicate (a.length - i) [] : List (List Int)).set i (a.getD i [])))) (d' := (.bss ((a.take i ++ List.replicate (a.length - i) [] : List (List Int)).set i (a.getD i [])))) rfl rfl (by kernel_rfl) rfl rfl rfl rfl rfl rfl (.row rfl (by simp) .nil) (by simp) (Putd.one rfl trivial rfl (by simp only [D.at_, D.size, List.length_set, upTo_length]; first | omega | (simp; omega)) (lt_ok rfl)) rfl) ?_
   refine TL.nil ?_
   refine T.region ?_
   refine TL.cons rfl (Step.move (p := (.one (.d (.int .i64 (i : Int))))) rfl rfl (lt_ok rfl) rfl) ?_
   refine TL.cons rfl (Step.bin (r := .int .i64 ((i : Int) + 1)) rfl rfl (lt_ok rfl) rfl rfl (Bin.add (a := (i : Int)) (b := 1) (by first | exact wrap_ok (by first | omega | (simp; omega)) (by first | omega | (simp; omega)) | rfl))) ?_
   refine TL.cons rfl (Step.assign (p := (.one (.d (.int .i64 ((i : Int) + 1))))) rfl rfl (lt_ok rfl) rfl) ?_
   refine TL.nil ?_
   exact ⟨i + 1, by omega, by omega, Env.le_mk ⟨rfl, rfl, rfl, by first | rfl | exact congrArg (fun x => some (24, ((.bss x) : D))) (fill_set a [] [] i (by omega)), trivial⟩ ⟨by first | rfl | exact congrArg (fun x => some (24, ((.bss x) : D))) (fill_set a [] [] i (by omega)), trivial⟩ trivial⟩
  ·
   replace h1 := of_decide_eq_false h1
   refine T.exit ?_
   refine T.seq ?_
   refine T.region ?_
   refine TL.cons rfl (Step.move (p := (.one (.row 7 []))) rfl rfl (lt_ok rfl) rfl) ?_
   refine TL.cons rfl (Step.assign (p := (.one (.row 7 []))) rfl rfl (lt_ok rfl) rfl) ?_
   refine TL.nil ?_
   refine T.ret ?_
   exact ⟨[(false, [.row 7 []])], (.cons rfl .nil), rfl, [7], (RetC.own' rfl (by first | rfl | (congr 1; rw [fill_all' _ _ _ (by omega)]) | (rw [fill_all' _ _ _ (by omega)])) rfl .nil)⟩
theorem ok_laws_toQc (a : SQc) (h0_ : a.sm) : RO Try.prog 74 [.agg a.cells] [(true, [.rd (.int .i64 a.f0), .rd (.int .i64 a.f1), .own 5 (.ints .u8 a.f2), .own 5 (.ints .u8 a.f3), .own 24 (.bss a.f4)])] := by
 refine RO.intro Try.func74 rfl 23 rfl (le_ok rfl) fun w Z => ?_
 obtain ⟨s0, s1, s2⟩ := h0_
 refine T.seq ?_
 refine T.region ?_
 refine TL.cons rfl (Step.box (p := (.agg [.d (.int .i64 a.f0), .d (.int .i64 a.f1), .d (.ints .u8 a.f2), .d (.ints .u8 a.f3), .d (.bss a.f4)])) (ps := [.d (.int .i64 a.f0), .d (.int .i64 a.f1), .d (.ints .u8 a.f2), .d (.ints .u8 a.f3), .d (.bss a.f4)]) rfl rfl (lt_ok rfl) rfl rfl rfl rfl rfl) ?_
 refine TL.cons rfl (Step.alloc (cs := [.int .i64 0, .int .i64 0, .slice none 0 0, .slice none 0 0, .slice none 0 0]) (ps := [.d (.int .i64 0), .d (.int .i64 0), .nil, .nil, .nil]) rfl rfl (lt_ok rfl) (by kernel_rfl) rfl rfl rfl rfl) ?_
 refine TL.nil ?_
 refine T.seq ?_
 refine T.region ?_
 refine TL.cons rfl (Step.alloc (cs := [.int .i64 0, .int .i64 0, .slice none 0 0, .slice none 0 0, .slice none 0 0]) (ps := [.d (.int .i64 0), .d (.int .i64 0), .nil, .nil, .nil]) rfl rfl (lt_ok rfl) (by kernel_rfl) rfl rfl rfl rfl) ?_
 refine TL.nil ?_
 refine T.seq ?_
 refine T.region ?_
 refine TL.cons rfl (Step.fieldAddr (q := 0) (off := 0) (n := 1) (one := true) rfl rfl (lt_ok rfl) (by kernel_rfl) (Nat.succ_ne_zero _) rfl) ?_
 refine TL.cons rfl (Step.load_box (c := .d (.int .i64 a.f0)) rfl rfl (lt_ok rfl) (by kernel_rfl) rfl rfl rfl) ?_
 refine TL.cons rfl (Step.fieldAddr (q := 0) (off := 0) (n := 1) (one := true) rfl rfl (lt_ok rfl) (by kernel_rfl) (Nat.succ_ne_zero _) rfl) ?_
 refine TL.cons rfl (Step.store_box (n := 1) (p := (.one (.d (.int .i64 a.f0)))) (qs := [.d (.int .i64 a.f0)]) (ps' := [.d (.int .i64 a.f0), .d (.int .i64 0), .nil, .nil, .nil]) rfl rfl (by kernel_rfl) rfl rfl rfl rfl rfl rfl (le_ok rfl) rfl) ?_
 refine TL.nil ?_
 refine T.seq ?_
 refine T.region ?_
 refine TL.cons rfl (Step.fieldAddr (q := 0) (off := 1) (n := 1) (one := true) rfl rfl (lt_ok rfl) (by kernel_rfl) (Nat.succ_ne_zero _) rfl) ?_
 refine TL.cons rfl (Step.load_box (c := .d (.int .i64 a.f1)) rfl rfl (lt_ok rfl) (by kernel_rfl) rfl rfl rfl) ?_
 refine TL.cons rfl (Step.fieldAddr (q := 0) (off := 1) (n := 1) (one := true) rfl rfl (lt_ok rfl) (by kernel_rfl) (Nat.succ_ne_zero _) rfl) ?_
 refine TL.cons rfl (Step.store_box (n := 1) (p := (.one (.d (.int .i64 a.f1)))) (qs := [.d (.int .i64 a.f1)]) (ps' := [.d (.int .i64 a.f0), .d (.int .i64 a.f1), .nil, .nil, .nil]) rfl rfl (by kernel_rfl) rfl rfl rfl rfl rfl rfl (le_ok rfl) rfl) ?_
 refine TL.nil ?_
 refine T.seq ?_
 refine T.region ?_
 refine TL.cons rfl (Step.fieldAddr (q := 0) (off := 2) (n := 1) (one := true) rfl rfl (lt_ok rfl) (by kernel_rfl) (Nat.succ_ne_zero _) rfl) ?_
 refine TL.cons rfl (Step.load_box (c := .d (.ints .u8 a.f2)) rfl rfl (lt_ok rfl) (by kernel_rfl) rfl rfl rfl) ?_
 refine TL.cons rfl (Step.call (f := 18) (xs := [.tmp 11]) (ps := [(.one (.d (.ints .u8 a.f2)))]) false (g := .func 18) rfl rfl (lt_ok rfl) rfl (by kernel_rfl) rfl (.cons (.one (.d _)) .nil) (ok_laws_toByteS a.f2 (by first | omega | assumption | exact mem_getD h0_.2 (by omega))) (.inr rfl) rfl (by simp) rfl) ?_
 refine TL.cons rfl (Step.fieldAddr (q := 0) (off := 2) (n := 1) (one := true) rfl rfl (lt_ok rfl) (by kernel_rfl) (Nat.succ_ne_zero _) rfl) ?_
 refine TL.cons rfl (Step.store_box (n := 1) (p := (.one (.row 1012 []))) (qs := [.row 1012 []]) (ps' := [.d (.int .i64 a.f0), .d (.int .i64 a.f1), .row 1012 [], .nil, .nil]) rfl rfl (by kernel_rfl) rfl rfl rfl rfl rfl rfl (le_ok rfl) rfl) ?_
 refine TL.nil ?_
 refine T.seq ?_
 refine T.region ?_
 refine TL.cons rfl (Step.fieldAddr (q := 0) (off := 3) (n := 1) (one := true) rfl rfl (lt_ok rfl) (by kernel_rfl) (Nat.succ_ne_zero _) rfl) ?_
 refine TL.cons rfl (Step.load_box (c := .d (.ints .u8 a.f3)) rfl rfl (lt_ok rfl) (by kernel_rfl) rfl rfl rfl) ?_
 refine TL.cons rfl (Step.call (f := 18) (xs := [.tmp 15]) (ps := [(.one (.d (.ints .u8 a.f3)))]) false (g := .func 18) rfl rfl (lt_ok rfl) rfl (by kernel_rfl) rfl (.cons (.one (.d _)) .nil) (ok_laws_toByteS a.f3 (by first | omega | assumption | exact mem_getD h0_.2 (by omega))) (.inr rfl) rfl (by simp) rfl) ?_
 refine TL.cons rfl (Step.fieldAddr (q := 0) (off := 3) (n := 1) (one := true) rfl rfl (lt_ok rfl) (by kernel_rfl) (Nat.succ_ne_zero _) rfl) ?_
 refine TL.cons rfl (Step.store_box (n := 1) (p := (.one (.row 1016 []))) (qs := [.row 1016 []]) (ps' := [.d (.int .i64 a.f0), .d (.int .i64 a.f1), .row 1012 [], .row 1016 [], .nil]) rfl rfl (by kernel_rfl) rfl rfl rfl rfl rfl rfl (le_ok rfl) rfl) ?_
 refine TL.nil ?_
 refine T.seq ?_
 refine T.region ?_
 refine TL.cons rfl (Step.fieldAddr (q := 0) (off := 4) (n := 1) (one := true) rfl rfl (lt_ok rfl) (by kernel_rfl) (Nat.succ_ne_zero _) rfl) ?_
 refine TL.cons rfl (Step.load_box (c := .d (.bss a.f4)) rfl rfl (lt_ok rfl) (by kernel_rfl) rfl rfl rfl) ?_
 refine TL.cons rfl (Step.call (f := 56) (xs := [.tmp 19]) (ps := [(.one (.d (.bss a.f4)))]) false (g := .func 56) rfl rfl (lt_ok rfl) rfl (by kernel_rfl) rfl (.cons (.one (.d _)) .nil) (ok_laws_toByteSS a.f4 (by first | assumption | exact ⟨‹_›, ‹_›⟩ | exact mem_getD h0_.2 (by omega))) (.inr rfl) rfl (by simp) rfl) ?_
 refine TL.cons rfl (Step.fieldAddr (q := 0) (off := 4) (n := 1) (one := true) rfl rfl (lt_ok rfl) (by kernel_rfl) (Nat.succ_ne_zero _) rfl) ?_
 refine TL.cons rfl (Step.store_box (n := 1) (p := (.one (.row 1020 []))) (qs := [.row 1020 []]) (ps' := [.d (.int .i64 a.f0), .d (.int .i64 a.f1), .row 1012 [], .row 1016 [], .row 1020 []]) rfl rfl (by kernel_rfl) rfl rfl rfl rfl rfl rfl (le_ok rfl) rfl) ?_
 refine TL.nil ?_
 refine T.seq ?_
 refine T.region ?_
 refine TL.cons rfl (Step.load_box_agg (n := 5) (qs := [.d (.int .i64 a.f0), .d (.int .i64 a.f1), .row 1012 [], .row 1016 [], .row 1020 []]) rfl rfl (lt_ok rfl) (by kernel_rfl) rfl rfl rfl rfl) ?_
 refine TL.cons rfl (Step.store_box (n := 5) (p := (.agg [.d (.int .i64 a.f0), .d (.int .i64 a.f1), .row 1012 [], .row 1016 [], .row 1020 []])) (qs := [.d (.int .i64 a.f0), .d (.int .i64 a.f1), .row 1012 [], .row 1016 [], .row 1020 []]) (ps' := [.d (.int .i64 a.f0), .d (.int .i64 a.f1), .row 1012 [], .row 1016 [], .row 1020 []]) rfl rfl (by kernel_rfl) rfl rfl rfl rfl rfl rfl (le_ok rfl) rfl) ?_
 refine TL.nil ?_
 refine T.ret ?_
 exact ⟨[(true, [.d (.int .i64 a.f0), .d (.int .i64 a.f1), .row 1012 [], .row 1016 [], .row 1020 []])], (.cons rfl .nil), rfl, [1012, 1016, 1020], (RetC.rd' (by rfl) (RetC.rd' (by rfl) (RetC.own' rfl (by rfl) rfl (RetC.own' rfl (by rfl) rfl (RetC.own' rfl (by rfl) rfl .nil)))))⟩
theorem ok_laws_toHead (a : SHead) (h0_ : a.sm) : RO Try.prog 50 [.agg a.cells] [(true, [.rd (.int .i64 a.f0), .rd (.int .i64 a.f1), .rd (.int .i64 a.f2), .own 5 (.ints .u8 a.f3), .own 5 (.ints .u8 a.f4), .rd (.int .i64 a.f5.f0), .rd (.int .i64 a.f5.f1), .own 5 (.ints .u8 a.f5.f2), .own 5 (.ints .u8 a.f5.f3), .own 24 (.bss a.f5.f4)])] := by
 refine RO.intro Try.func50 rfl 26 rfl (le_ok rfl) fun w Z => ?_
 obtain ⟨s0, s1, s2⟩ := h0_
 refine T.seq ?_
 refine T.region ?_
 refine TL.cons rfl (Step.box (p := (.agg [.d (.int .i64 a.f0), .d (.int .i64 a.f1), .d (.int .i64 a.f2), .d (.ints .u8 a.f3), .d (.ints .u8 a.f4), .d (.int .i64 a.f5.f0), .d (.int .i64 a.f5.f1), .d (.ints .u8 a.f5.f2), .d (.ints .u8 a.f5.f3), .d (.bss a.f5.f4)])) (ps := [.d (.int .i64 a.f0), .d (.int .i64 a.f1), .d (.int .i64 a.f2), .d (.ints .u8 a.f3), .d (.ints .u8 a.f4), .d (.int .i64 a.f5.f0), .d (.int .i64 a.f5.f1), .d (.ints .u8 a.f5.f2), .d (.ints .u8 a.f5.f3), .d (.bss a.f5.f4)]) rfl rfl (lt_ok rfl) rfl rfl rfl rfl rfl) ?_
 refine TL.cons rfl (Step.alloc (cs := [.int .i64 0, .int .i64 0, .int .i64 0, .slice none 0 0, .slice none 0 0, .int .i64 0, .int .i64 0, .slice none 0 0, .slice none 0 0, .slice none 0 0]) (ps := [.d (.int .i64 0), .d (.int .i64 0), .d (.int .i64 0), .nil, .nil, .d (.int .i64 0), .d (.int .i64 0), .nil, .nil, .nil]) rfl rfl (lt_ok rfl) (by kernel_rfl) rfl rfl rfl rfl) ?_
 refine TL.nil ?_
 refine T.seq ?_
 refine T.region ?_
 refine TL.cons rfl (Step.alloc (cs := [.int .i64 0, .int .i64 0, .int .i64 0, .slice none 0 0, .slice none 0 0, .int .i64 0, .int .i64 0, .slice none 0 0, .slice none 0 0, .slice none 0 0]) (ps := [.d (.int .i64 0), .d (.int .i64 0), .d (.int .i64 0), .nil, .nil, .d (.int .i64 0), .d (.int .i64 0), .nil, .nil, .nil]) rfl rfl (lt_ok rfl) (by kernel_rfl) rfl rfl rfl rfl) ?_
 refine TL.nil ?_
 refine T.seq ?_
 refine T.region ?_
 refine TL.cons rfl (Step.fieldAddr (q := 0) (off := 0) (n := 1) (one := true) rfl rfl (lt_ok rfl) (by kernel_rfl) (Nat.succ_ne_zero _) rfl) ?_
 refine TL.cons rfl (Step.load_box (c := .d (.int .i64 a.f0)) rfl rfl (lt_ok rfl) (by kernel_rfl) rfl rfl rfl) ?_
 refine TL.cons rfl (Step.fieldAddr (q := 0) (off := 0) (n := 1) (one := true) rfl rfl (lt_ok rfl) (by kernel_rfl) (Nat.succ_ne_zero _) rfl) ?_
 refine TL.cons rfl (Step.store_box (n := 1) (p := (.one (.d (.int .i64 a.f0)))) (qs := [.d (.int .i64 a.f0)]) (ps' := [.d (.int .i64 a.f0), .d (.int .i64 0), .d (.int .i64 0), .nil, .nil, .d (.int .i64 0), .d (.int .i64 0), .nil, .nil, .nil]) rfl rfl (by kernel_rfl) rfl rfl rfl rfl rfl rfl (le_ok rfl) rfl) ?_
 refine TL.nil ?_
 refine T.seq ?_
 refine T.region ?_
 refine TL.cons rfl (Step.fieldAddr (q := 0) (off := 1) (n := 1) (one := true) rfl rfl (lt_ok rfl) (by kernel_rfl) (Nat.succ_ne_zero _) rfl) ?_
 refine TL.cons rfl (Step.load_box (c := .d (.int .i64 a.f1)) rfl rfl (lt_ok rfl) (by kernel_rfl) rfl rfl rfl) ?_
 refine TL.cons rfl (Step.fieldAddr (q := 0) (off := 1) (n := 1) (one := true) rfl rfl (lt_ok rfl) (by kernel_rfl) (Nat.succ_ne_zero _) rfl) ?_
 refine TL.cons rfl (Step.store_box (n := 1) (p := (.one (.d (.int .i64 a.f1)))) (qs := [.d (.int .i64 a.f1)]) (ps' := [.d (.int .i64 a.f0), .d (.int .i64 a.f1), .d (.int .i64 0), .nil, .nil, .d (.int .i64 0), .d (.int .i64 0), .nil, .nil, .nil]) rfl rfl (by kernel_rfl) rfl rfl rfl rfl rfl rfl (le_ok rfl) rfl) ?_
 refine TL.nil ?_
 refine T.seq ?_
 refine T.region ?_
 refine TL.cons rfl (Step.fieldAddr (q := 0) (off := 2) (n := 1) (one := true) rfl rfl (lt_ok rfl) (by kernel_rfl) (Nat.succ_ne_zero _) rfl) ?_
 refine TL.cons rfl (Step.load_box (c := .d (.int .i64 a.f2)) rfl rfl (lt_ok rfl) (by kernel_rfl) rfl rfl rfl) ?_
 refine TL.cons rfl (Step.fieldAddr (q := 0) (off := 2) (n := 1) (one := true) rfl rfl (lt_ok rfl) (by kernel_rfl) (Nat.succ_ne_zero _) rfl) ?_
 refine TL.cons rfl (Step.store_box (n := 1) (p := (.one (.d (.int .i64 a.f2)))) (qs := [.d (.int .i64 a.f2)]) (ps' := [.d (.int .i64 a.f0), .d (.int .i64 a.f1), .d (.int .i64 a.f2), .nil, .nil, .d (.int .i64 0), .d (.int .i64 0), .nil, .nil, .nil]) rfl rfl (by kernel_rfl) rfl rfl rfl rfl rfl rfl (le_ok rfl) rfl) ?_
 refine TL.nil ?_
 refine T.seq ?_
 refine T.region ?_
 refine TL.cons rfl (Step.fieldAddr (q := 0) (off := 3) (n := 1) (one := true) rfl rfl (lt_ok rfl) (by kernel_rfl) (Nat.succ_ne_zero _) rfl) ?_
 refine TL.cons rfl (Step.load_box (c := .d (.ints .u8 a.f3)) rfl rfl (lt_ok rfl) (by kernel_rfl) rfl rfl rfl) ?_
 refine TL.cons rfl (Step.call (f := 18) (xs := [.tmp 14]) (ps := [(.one (.d (.ints .u8 a.f3)))]) false (g := .func 18) rfl rfl (lt_ok rfl) rfl (by kernel_rfl) rfl (.cons (.one (.d _)) .nil) (ok_laws_toByteS a.f3 (by first | omega | assumption | exact mem_getD h0_.2 (by omega))) (.inr rfl) rfl (by simp) rfl) ?_
 refine TL.cons rfl (Step.fieldAddr (q := 0) (off := 3) (n := 1) (one := true) rfl rfl (lt_ok rfl) (by kernel_rfl) (Nat.succ_ne_zero _) rfl) ?_
 refine TL.cons rfl (Step.store_box (n := 1) (p := (.one (.row 1015 []))) (qs := [.row 1015 []]) (ps' := [.d (.int .i64 a.f0), .d (.int .i64 a.f1), .d (.int .i64 a.f2), .row 1015 [], .nil, .d (.int .i64 0), .d (.int .i64 0), .nil, .nil, .nil]) rfl rfl (by kernel_rfl) rfl rfl rfl rfl rfl rfl (le_ok rfl) rfl) ?_
 refine TL.nil ?_
 refine T.seq ?_
 refine T.region ?_
 refine TL.cons rfl (Step.fieldAddr (q := 0) (off := 4) (n := 1) (one := true) rfl rfl (lt_ok rfl) (by kernel_rfl) (Nat.succ_ne_zero _) rfl) ?_
 refine TL.cons rfl (Step.load_box (c := .d (.ints .u8 a.f4)) rfl rfl (lt_ok rfl) (by kernel_rfl) rfl rfl rfl) ?_
 refine TL.cons rfl (Step.call (f := 18) (xs := [.tmp 18]) (ps := [(.one (.d (.ints .u8 a.f4)))]) false (g := .func 18) rfl rfl (lt_ok rfl) rfl (by kernel_rfl) rfl (.cons (.one (.d _)) .nil) (ok_laws_toByteS a.f4 (by first | omega | assumption | exact mem_getD h0_.2 (by omega))) (.inr rfl) rfl (by simp) rfl) ?_
 refine TL.cons rfl (Step.fieldAddr (q := 0) (off := 4) (n := 1) (one := true) rfl rfl (lt_ok rfl) (by kernel_rfl) (Nat.succ_ne_zero _) rfl) ?_
 refine TL.cons rfl (Step.store_box (n := 1) (p := (.one (.row 1019 []))) (qs := [.row 1019 []]) (ps' := [.d (.int .i64 a.f0), .d (.int .i64 a.f1), .d (.int .i64 a.f2), .row 1015 [], .row 1019 [], .d (.int .i64 0), .d (.int .i64 0), .nil, .nil, .nil]) rfl rfl (by kernel_rfl) rfl rfl rfl rfl rfl rfl (le_ok rfl) rfl) ?_
 refine TL.nil ?_
 refine T.seq ?_
 refine T.region ?_
 refine TL.cons rfl (Step.fieldAddr (q := 0) (off := 5) (n := 5) (one := false) rfl rfl (lt_ok rfl) (by kernel_rfl) (Nat.succ_ne_zero _) rfl) ?_
 refine TL.cons rfl (Step.load_box_agg (n := 5) (qs := [.d (.int .i64 a.f5.f0), .d (.int .i64 a.f5.f1), .d (.ints .u8 a.f5.f2), .d (.ints .u8 a.f5.f3), .d (.bss a.f5.f4)]) rfl rfl (lt_ok rfl) (by kernel_rfl) rfl rfl rfl rfl) ?_
 refine TL.cons rfl (Step.call (f := 74) (xs := [.tmp 22]) (ps := [(.agg [.d (.int .i64 a.f5.f0), .d (.int .i64 a.f5.f1), .d (.ints .u8 a.f5.f2), .d (.ints .u8 a.f5.f3), .d (.bss a.f5.f4)])]) false (g := .func 74) rfl rfl (lt_ok rfl) rfl (by kernel_rfl) rfl (.cons (.agg (.cons (.d _) (.cons (.d _) (.cons (.d _) (.cons (.d _) (.cons (.d _) .nil)))))) .nil) (ok_laws_toQc a.f5 (by first | assumption | exact ⟨‹_›, ‹_›⟩ | (refine mem_getD (p := SQc.sm) h0_.2 (by omega)) | exact mem_getD h0_.2 (by omega))) (.inr rfl) rfl (by simp) rfl) ?_
 refine TL.cons rfl (Step.fieldAddr (q := 0) (off := 5) (n := 5) (one := false) rfl rfl (lt_ok rfl) (by kernel_rfl) (Nat.succ_ne_zero _) rfl) ?_
 refine TL.cons rfl (Step.store_box (n := 5) (p := (.agg [.d (.int .i64 a.f5.f0), .d (.int .i64 a.f5.f1), .row 3023 [], .row 4023 [], .row 5023 []])) (qs := [.d (.int .i64 a.f5.f0), .d (.int .i64 a.f5.f1), .row 3023 [], .row 4023 [], .row 5023 []]) (ps' := [.d (.int .i64 a.f0), .d (.int .i64 a.f1), .d (.int .i64 a.f2), .row 1015 [], .row 1019 [], .d (.int .i64 a.f5.f0), .d (.int .i64 a.f5.f1), .row 3023 [], .row 4023 [], .row 5023 []]) rfl rfl (by kernel_rfl) rfl rfl rfl rfl rfl rfl (le_ok rfl) rfl) ?_
 refine TL.nil ?_
 refine T.seq ?_
 refine T.region ?_
 refine TL.cons rfl (Step.load_box_agg (n := 10) (qs := [.d (.int .i64 a.f0), .d (.int .i64 a.f1), .d (.int .i64 a.f2), .row 1015 [], .row 1019 [], .d (.int .i64 a.f5.f0), .d (.int .i64 a.f5.f1), .row 3023 [], .row 4023 [], .row 5023 []]) rfl rfl (lt_ok rfl) (by kernel_rfl) rfl rfl rfl rfl) ?_
 refine TL.cons rfl (Step.store_box (n := 10) (p := (.agg [.d (.int .i64 a.f0), .d (.int .i64 a.f1), .d (.int .i64 a.f2), .row 1015 [], .row 1019 [], .d (.int .i64 a.f5.f0), .d (.int .i64 a.f5.f1), .row 3023 [], .row 4023 [], .row 5023 []])) (qs := [.d (.int .i64 a.f0), .d (.int .i64 a.f1), .d (.int .i64 a.f2), .row 1015 [], .row 1019 [], .d (.int .i64 a.f5.f0), .d (.int .i64 a.f5.f1), .row 3023 [], .row 4023 [], .row 5023 []]) (ps' := [.d (.int .i64 a.f0), .d (.int .i64 a.f1), .d (.int .i64 a.f2), .row 1015 [], .row 1019 [], .d (.int .i64 a.f5.f0), .d (.int .i64 a.f5.f1), .row 3023 [], .row 4023 [], .row 5023 []]) rfl rfl (by kernel_rfl) rfl rfl rfl rfl rfl rfl (le_ok rfl) rfl) ?_
 refine TL.nil ?_
 refine T.ret ?_
 exact ⟨[(true, [.d (.int .i64 a.f0), .d (.int .i64 a.f1), .d (.int .i64 a.f2), .row 1015 [], .row 1019 [], .d (.int .i64 a.f5.f0), .d (.int .i64 a.f5.f1), .row 3023 [], .row 4023 [], .row 5023 []])], (.cons rfl .nil), rfl, [1015, 1019, 3023, 4023, 5023], (RetC.rd' (by rfl) (RetC.rd' (by rfl) (RetC.rd' (by rfl) (RetC.own' rfl (by rfl) rfl (RetC.own' rfl (by rfl) rfl (RetC.rd' (by rfl) (RetC.rd' (by rfl) (RetC.own' rfl (by rfl) rfl (RetC.own' rfl (by rfl) rfl (RetC.own' rfl (by rfl) rfl .nil))))))))))⟩
theorem ok_laws_toHeadS (a : List SHead) (h0_ : a.length ≤ 1048576 ∧ ∀ y ∈ a, SHead.sm y) : RO Try.prog 73 [.one (.sl 10 (a.map SHead.cells))] [(false, [.own 54 (.sl 10 (a.map SHead.cells))])] := by
 refine RO.intro Try.func73 rfl 23 rfl (le_ok rfl) fun w Z => ?_
 refine T.bnd 0 0 rfl rfl fun hb_0_0 => ?_
 simp only [D.size, List.length_map] at hb_0_0
 have h0b := h0_.1
 refine T.seq ?_
 refine T.region ?_
 refine TL.cons rfl (Step.assign (p := (.one (.nil))) rfl rfl (lt_ok rfl) rfl) ?_
 refine TL.nil ?_
 refine T.seq ?_
 refine T.region ?_
 refine TL.cons rfl (Step.move (p := (.one (.d (.sl 10 (a.map SHead.cells))))) rfl rfl (lt_ok rfl) rfl) ?_
 refine TL.cons rfl (Step.len' (e := 48) (z := 10) (d := (.sl 10 (a.map SHead.cells))) (n := a.length) rfl rfl (lt_ok rfl) (by kernel_rfl) rfl rfl (by simp [D.size])) ?_
 refine TL.cons rfl (Step.make (e := 54) (z := 10) (by_ := 160) (n := (a.length : Int)) (zs := [.int .i64 0, .int .i64 0, .int .i64 0, .slice none 0 0, .slice none 0 0, .int .i64 0, .int .i64 0, .slice none 0 0, .slice none 0 0, .slice none 0 0]) (zd := [(.int .i64 0), (.int .i64 0), (.int .i64 0), (.ints .u8 []), (.ints .u8 []), (.int .i64 0), (.int .i64 0), (.ints .u8 []), (.ints .u8 []), (.bss [])]) (d := (.sl 10 ((List.replicate a.length default).map SHead.cells))) rfl rfl (lt_ok rfl) (by kernel_rfl) (lt_ok rfl) rfl (by first | omega | (simp; omega)) (by first | omega | (simp; omega)) (by first | omega | (simp; omega)) (by kernel_rfl) (zeroB_ok _ _ (by kernel_rfl)) rfl (by simp) (by simp only [D.flat, List.map_replicate]; rfl) (by simp [D.size]) rfl (wf_map SHead.len _)) ?_
 refine TL.cons rfl (Step.assign (p := (.one (.row 7 []))) rfl rfl (lt_ok rfl) rfl) ?_
 refine TL.nil ?_
 refine T.seq ?_
 refine T.seq ?_
 refine T.region ?_
 refine TL.cons rfl (Step.assign (p := (.one (.d (.int .i64 0)))) rfl rfl (lt_ok rfl) rfl) ?_
 refine TL.nil ?_
 refine T.block ?_
 refine T.loop (ι := Nat) (fun xx_ => { tm := [(0, (.one (.d (.sl 10 (a.map SHead.cells))))), (2, (.one (.nil))), (3, (.one (.row 7 []))), (4, (.one (.d (.int .i64 (xx_ : Int)))))], rows := [(7, (54, (.sl 10 ((a.take xx_ ++ List.replicate (a.length - xx_) default : List SHead).map SHead.cells))))], boxes := [] }) (fun xx_ => xx_ ≤ a.length) (fun xx_ => a.length - xx_) 0 ?_ ?_ ?_
 · exact Env.le_mk ⟨rfl, rfl, rfl, by first | rfl | exact congrArg (fun x => some (54, ((.sl 10 (x.map SHead.cells)) : D))) (fill_set a default default i (by omega)), trivial⟩ ⟨by first | rfl | exact congrArg (fun x => some (54, ((.sl 10 (x.map SHead.cells)) : D))) (fill_set a default default i (by omega)), trivial⟩ trivial
 · exact Nat.zero_le _
 ·
  intro i hx
  try dsimp only at hx ⊢
  refine T.seq ?_
  refine T.seq ?_
  refine T.region ?_
  refine TL.cons rfl (Step.move (p := (.one (.d (.int .i64 (i : Int))))) rfl rfl (lt_ok rfl) rfl) ?_
  refine TL.cons rfl (Step.move (p := (.one (.d (.sl 10 (a.map SHead.cells))))) rfl rfl (lt_ok rfl) rfl) ?_
  refine TL.cons rfl (Step.len' (e := 48) (z := 10) (d := (.sl 10 (a.map SHead.cells))) (n := a.length) rfl rfl (lt_ok rfl) (by kernel_rfl) rfl rfl (by simp [D.size])) ?_
  refine TL.cons rfl (Step.bin rfl rfl (lt_ok rfl) rfl rfl (Bin.lss (k := .i64) (a := (i : Int)) (b := (a.length : Int)))) ?_
  refine TL.nil ?_
  refine T.cond (b := decide ((i : Int) < (a.length : Int))) rfl (fun h1 => ?_) (fun h1 => ?_)
  ·
   replace h1 := of_decide_eq_true h1
   refine T.skip ?_
   refine T.seq ?_
   refine T.block ?_
   refine T.region ?_
   refine TL.cons rfl (Step.move (p := (.one (.row 7 []))) rfl rfl (lt_ok rfl) rfl) ?_
   refine TL.cons rfl (Step.move (p := (.one (.d (.int .i64 (i : Int))))) rfl rfl (lt_ok rfl) rfl) ?_
   refine TL.cons rfl (Step.move (p := (.one (.d (.sl 10 (a.map SHead.cells))))) rfl rfl (lt_ok rfl) rfl) ?_
   refine TL.cons rfl (Step.move (p := (.one (.d (.int .i64 (i : Int))))) rfl rfl (lt_ok rfl) rfl) ?_
   refine TL.cons rfl (Step.index (e := 48) (z := 10) (i := (i : Int)) rfl rfl (lt_ok rfl) (by kernel_rfl) rfl rfl rfl (lt_ok rfl) rfl (by first | omega | (simp; omega)) (by simp only [D.size]; first | omega | (simp; omega))) ?_
   refine TL.cons rfl (Step.load_agg (n := 10) (cs := [.d (.int .i64 (a.getD i default).f0), .d (.int .i64 (a.getD i default).f1), .d (.int .i64 (a.getD i default).f2), .d (.ints .u8 (a.getD i default).f3), .d (.ints .u8 (a.getD i default).f4), .d (.int .i64 (a.getD i default).f5.f0), .d (.int .i64 (a.getD i default).f5.f1), .d (.ints .u8 (a.getD i default).f5.f2), .d (.ints .u8 (a.getD i default).f5.f3), .d (.bss (a.getD i default).f5.f4)]) rfl rfl (lt_ok rfl) (by kernel_rfl) rfl rfl (by simp only [List.range, List.range.loop, List.map_cons, List.map_nil]; rw [cell_map default (by first | omega | (simp; omega)), cell_map default (by first | omega | (simp; omega)), cell_map default (by first | omega | (simp; omega)), cell_map default (by first | omega | (simp; omega)), cell_map default (by first | omega | (simp; omega)), cell_map default (by first | omega | (simp; omega)), cell_map default (by first | omega | (simp; omega)), cell_map default (by first | omega | (simp; omega)), cell_map default (by first | omega | (simp; omega)), cell_map default (by first | omega | (simp; omega))]; rfl)) ?_
   refine TL.cons rfl (Step.call (f := 50) (xs := [.tmp 19]) (ps := [(.agg [.d (.int .i64 (a.getD i default).f0), .d (.int .i64 (a.getD i default).f1), .d (.int .i64 (a.getD i default).f2), .d (.ints .u8 (a.getD i default).f3), .d (.ints .u8 (a.getD i default).f4), .d (.int .i64 (a.getD i default).f5.f0), .d (.int .i64 (a.getD i default).f5.f1), .d (.ints .u8 (a.getD i default).f5.f2), .d (.ints .u8 (a.getD i default).f5.f3), .d (.bss (a.getD i default).f5.f4)])]) false (g := .func 50) rfl rfl (lt_ok rfl) rfl (by kernel_rfl) rfl (.cons (.agg (.cons (.d _) (.cons (.d _) (.cons (.d _) (.cons (.d _) (.cons (.d _) (.cons (.d _) (.cons (.d _) (.cons (.d _) (.cons (.d _) (.cons (.d _) .nil))))))))))) .nil) (ok_laws_toHead (a.getD i default) (by first | assumption | exact ⟨‹_›, ‹_›⟩ | (refine mem_getD (p := SHead.sm) h0_.2 (by omega)) | exact mem_getD h0_.2 (by omega))) (.inr rfl) rfl (by simp) rfl) ?_
   refine TL.cons rfl (Step.index_row (e := 54) (z := 10) (i := (i : Int)) rfl rfl (lt_ok rfl) (by kernel_rfl) rfl rfl rfl rfl (lt_ok rfl) rfl (by first | omega | (simp; omega)) (by simp only [D.at_, D.cell, D.size]; first | omega | (simp; omega))) ?_
   refine TL.cons rfl (Step.store_row (n := 10) (p := (.agg [.d (.int .i64 (a.getD i default).f0), .d (.int .i64 (a.getD i default).f1), .d (.int .i64 (a.getD i default).f2), .row 4020 [], .row 5020 [], .d (.int .i64 (a.getD i default).f5.f0), .d (.int .i64 (a.getD i default).f5.f1), .row 8020 [], .row 9020 [], .row 10020 []])) (ps := [.d (.int .i64 (a.getD i default).f0), .d (.int .i64 (a.getD i default).f1), .d (.int .i64 (a.getD i default).f2), .row 4020 [], .row 5020 [], .d (.int .i64 (a.getD i default).f5.f0), .d (.int .i64 (a.getD i default).f5.f1), .row 8020 [], .row 9020 [], .row 10020 []]) (es := SHead.cells (a.getD i default)) (ss := [4020, 5020, 8020, 9020, 10020]) (d1 := (.sl 10 (((a.take i ++ List.replicate (a.length - i) default : List SHead).set i (a.getD i default)).map SHead.cells))) (d' := (.sl 10 (((a.take i ++ List.replicate (a.length - i) default : List SHead).set i (a.getD i default)).map SHead.cells))) rfl rfl (by kernel_rfl) rfl rfl rfl rfl rfl rfl (.val rfl (.val rfl (.val rfl (.row rfl (by simp) (.row rfl (by simp) (.val rfl (.val rfl (.row rfl (by simp) (.row rfl (by simp) (.row rfl (by simp) .nil)))))))))) (by simp) (Putd.enc SHead.len (xs := (a.take i ++ List.replicate (a.length - i) default : List SHead)) (by simp; first | omega | (simp; omega)) (a.getD i default)) rfl) ?_
   refine TL.nil ?_
   refine T.region ?_
   refine TL.cons rfl (Step.move (p := (.one (.d (.int .i64 (i : Int))))) rfl rfl (lt_ok rfl) rfl) ?_
   refine TL.cons rfl (Step.bin (r := .int .i64 ((i : Int) + 1)) rfl rfl (lt_ok rfl) rfl rfl (Bin.add (a := (i : Int)) (b := 1) (by first | exact wrap_ok (by first | omega | (simp; omega)) (by first | omega | (simp; omega)) | rfl))) ?_
   refine TL.cons rfl (Step.assign (p := (.one (.d (.int .i64 ((i : Int) + 1))))) rfl rfl (lt_ok rfl) rfl) ?_
   refine TL.nil ?_
   exact ⟨i + 1, by omega, by omega, Env.le_mk ⟨rfl, rfl, rfl, by first | rfl | exact congrArg (fun x => some (54, ((.sl 10 (x.map SHead.cells)) : D))) (fill_set a default default i (by omega)), trivial⟩ ⟨by first | rfl | exact congrArg (fun x => some (54, ((.sl 10 (x.map SHead.cells)) : D))) (fill_set a default default i (by omega)), trivial⟩ trivial⟩
  ·
   replace h1 := of_decide_eq_false h1
   refine T.exit ?_
   refine T.seq ?_
   refine T.region ?_
   refine TL.cons rfl (Step.move (p := (.one (.row 7 []))) rfl rfl (lt_ok rfl) rfl) ?_
   refine TL.cons rfl (Step.assign (p := (.one (.row 7 []))) rfl rfl (lt_ok rfl) rfl) ?_
   refine TL.nil ?_
   refine T.ret ?_
   exact ⟨[(false, [.row 7 []])], (.cons rfl .nil), rfl, [7], (RetC.own' rfl (by first | rfl | (congr 1; rw [fill_all' _ _ _ (by omega)]) | (rw [fill_all' _ _ _ (by omega)])) rfl .nil)⟩
theorem ok_laws_toProof (a : SProof) (h0_ : a.sm) : RO Try.prog 19 [.agg a.cells] [(true, [.own 54 (.sl 10 (a.f0.map SHead.cells)), .rd (.int .i64 a.f1.f0), .rd (.int .i64 a.f1.f1), .own 5 (.ints .u8 a.f1.f2), .own 5 (.ints .u8 a.f1.f3), .own 24 (.bss a.f1.f4)])] := by
 refine RO.intro Try.func19 rfl 13 rfl (le_ok rfl) fun w Z => ?_
 obtain ⟨s0, s1⟩ := h0_
 refine T.seq ?_
 refine T.region ?_
 refine TL.cons rfl (Step.box (p := (.agg [.d (.sl 10 (a.f0.map SHead.cells)), .d (.int .i64 a.f1.f0), .d (.int .i64 a.f1.f1), .d (.ints .u8 a.f1.f2), .d (.ints .u8 a.f1.f3), .d (.bss a.f1.f4)])) (ps := [.d (.sl 10 (a.f0.map SHead.cells)), .d (.int .i64 a.f1.f0), .d (.int .i64 a.f1.f1), .d (.ints .u8 a.f1.f2), .d (.ints .u8 a.f1.f3), .d (.bss a.f1.f4)]) rfl rfl (lt_ok rfl) rfl rfl rfl rfl rfl) ?_
 refine TL.cons rfl (Step.alloc (cs := [.slice none 0 0, .int .i64 0, .int .i64 0, .slice none 0 0, .slice none 0 0, .slice none 0 0]) (ps := [.nil, .d (.int .i64 0), .d (.int .i64 0), .nil, .nil, .nil]) rfl rfl (lt_ok rfl) (by kernel_rfl) rfl rfl rfl rfl) ?_
 refine TL.nil ?_
 refine T.seq ?_
 refine T.region ?_
 refine TL.cons rfl (Step.alloc (cs := [.slice none 0 0, .int .i64 0, .int .i64 0, .slice none 0 0, .slice none 0 0, .slice none 0 0]) (ps := [.nil, .d (.int .i64 0), .d (.int .i64 0), .nil, .nil, .nil]) rfl rfl (lt_ok rfl) (by kernel_rfl) rfl rfl rfl rfl) ?_
 refine TL.nil ?_
 refine T.seq ?_
 refine T.region ?_
 refine TL.cons rfl (Step.fieldAddr (q := 0) (off := 0) (n := 1) (one := true) rfl rfl (lt_ok rfl) (by kernel_rfl) (Nat.succ_ne_zero _) rfl) ?_
 refine TL.cons rfl (Step.load_box (c := .d (.sl 10 (a.f0.map SHead.cells))) rfl rfl (lt_ok rfl) (by kernel_rfl) rfl rfl rfl) ?_
 refine TL.cons rfl (Step.call (f := 73) (xs := [.tmp 5]) (ps := [(.one (.d (.sl 10 (a.f0.map SHead.cells))))]) false (g := .func 73) rfl rfl (lt_ok rfl) rfl (by kernel_rfl) rfl (.cons (.one (.d _)) .nil) (ok_laws_toHeadS a.f0 (by first | assumption | exact ⟨‹_›, ‹_›⟩ | exact mem_getD h0_.2 (by omega))) (.inr rfl) rfl (by simp) rfl) ?_
 refine TL.cons rfl (Step.fieldAddr (q := 0) (off := 0) (n := 1) (one := true) rfl rfl (lt_ok rfl) (by kernel_rfl) (Nat.succ_ne_zero _) rfl) ?_
 refine TL.cons rfl (Step.store_box (n := 1) (p := (.one (.row 1006 []))) (qs := [.row 1006 []]) (ps' := [.row 1006 [], .d (.int .i64 0), .d (.int .i64 0), .nil, .nil, .nil]) rfl rfl (by kernel_rfl) rfl rfl rfl rfl rfl rfl (le_ok rfl) rfl) ?_
 refine TL.nil ?_
 refine T.seq ?_
 refine T.region ?_
 refine TL.cons rfl (Step.fieldAddr (q := 0) (off := 1) (n := 5) (one := false) rfl rfl (lt_ok rfl) (by kernel_rfl) (Nat.succ_ne_zero _) rfl) ?_
 refine TL.cons rfl (Step.load_box_agg (n := 5) (qs := [.d (.int .i64 a.f1.f0), .d (.int .i64 a.f1.f1), .d (.ints .u8 a.f1.f2), .d (.ints .u8 a.f1.f3), .d (.bss a.f1.f4)]) rfl rfl (lt_ok rfl) (by kernel_rfl) rfl rfl rfl rfl) ?_
 refine TL.cons rfl (Step.call (f := 74) (xs := [.tmp 9]) (ps := [(.agg [.d (.int .i64 a.f1.f0), .d (.int .i64 a.f1.f1), .d (.ints .u8 a.f1.f2), .d (.ints .u8 a.f1.f3), .d (.bss a.f1.f4)])]) false (g := .func 74) rfl rfl (lt_ok rfl) rfl (by kernel_rfl) rfl (.cons (.agg (.cons (.d _) (.cons (.d _) (.cons (.d _) (.cons (.d _) (.cons (.d _) .nil)))))) .nil) (ok_laws_toQc a.f1 (by first | assumption | exact ⟨‹_›, ‹_›⟩ | (refine mem_getD (p := SQc.sm) h0_.2 (by omega)) | exact mem_getD h0_.2 (by omega))) (.inr rfl) rfl (by simp) rfl) ?_
 refine TL.cons rfl (Step.fieldAddr (q := 0) (off := 1) (n := 5) (one := false) rfl rfl (lt_ok rfl) (by kernel_rfl) (Nat.succ_ne_zero _) rfl) ?_
 refine TL.cons rfl (Step.store_box (n := 5) (p := (.agg [.d (.int .i64 a.f1.f0), .d (.int .i64 a.f1.f1), .row 3010 [], .row 4010 [], .row 5010 []])) (qs := [.d (.int .i64 a.f1.f0), .d (.int .i64 a.f1.f1), .row 3010 [], .row 4010 [], .row 5010 []]) (ps' := [.row 1006 [], .d (.int .i64 a.f1.f0), .d (.int .i64 a.f1.f1), .row 3010 [], .row 4010 [], .row 5010 []]) rfl rfl (by kernel_rfl) rfl rfl rfl rfl rfl rfl (le_ok rfl) rfl) ?_
 refine TL.nil ?_
 refine T.seq ?_
 refine T.region ?_
 refine TL.cons rfl (Step.load_box_agg (n := 6) (qs := [.row 1006 [], .d (.int .i64 a.f1.f0), .d (.int .i64 a.f1.f1), .row 3010 [], .row 4010 [], .row 5010 []]) rfl rfl (lt_ok rfl) (by kernel_rfl) rfl rfl rfl rfl) ?_
 refine TL.cons rfl (Step.store_box (n := 6) (p := (.agg [.row 1006 [], .d (.int .i64 a.f1.f0), .d (.int .i64 a.f1.f1), .row 3010 [], .row 4010 [], .row 5010 []])) (qs := [.row 1006 [], .d (.int .i64 a.f1.f0), .d (.int .i64 a.f1.f1), .row 3010 [], .row 4010 [], .row 5010 []]) (ps' := [.row 1006 [], .d (.int .i64 a.f1.f0), .d (.int .i64 a.f1.f1), .row 3010 [], .row 4010 [], .row 5010 []]) rfl rfl (by kernel_rfl) rfl rfl rfl rfl rfl rfl (le_ok rfl) rfl) ?_
 refine TL.nil ?_
 refine T.ret ?_
 exact ⟨[(true, [.row 1006 [], .d (.int .i64 a.f1.f0), .d (.int .i64 a.f1.f1), .row 3010 [], .row 4010 [], .row 5010 []])], (.cons rfl .nil), rfl, [1006, 3010, 4010, 5010], (RetC.own' rfl (by rfl) rfl (RetC.rd' (by rfl) (RetC.rd' (by rfl) (RetC.own' rfl (by rfl) rfl (RetC.own' rfl (by rfl) rfl (RetC.own' rfl (by rfl) rfl .nil))))))⟩
theorem ok_impl_within (n : Int) (low : Int) (high : Int) : RO Try.prog 117 [.one (.int .i64 n), .one (.int .i64 low), .one (.int .i64 high)] [(false, [.rd (.bool (decide (low ≤ n ∧ n ≤ high)))])] := by
 refine RO.intro Try.func117 rfl 15 rfl (le_ok rfl) fun w Z => ?_
 refine T.seq ?_
 refine T.region ?_
 refine TL.cons rfl (Step.assign (p := (.one (.d (.bool false)))) rfl rfl (lt_ok rfl) rfl) ?_
 refine TL.nil ?_
 refine T.seq ?_
 refine T.region ?_
 refine TL.cons rfl (Step.move (p := (.one (.d (.int .i64 low)))) rfl rfl (lt_ok rfl) rfl) ?_
 refine TL.cons rfl (Step.move (p := (.one (.d (.int .i64 n)))) rfl rfl (lt_ok rfl) rfl) ?_
 refine TL.cons rfl (Step.bin rfl rfl (lt_ok rfl) rfl rfl (Bin.leq (k := .i64) (a := low) (b := n))) ?_
 refine TL.cons rfl (Step.move (p := (.one (.d (.bool (decide (low ≤ n)))))) rfl rfl (lt_ok rfl) rfl) ?_
 rcases Bool.eq_false_or_eq_true (decide (low ≤ n)) with hb1 | hb1
 ·
  refine TL.known 10 hb1 rfl ?_
  refine TL.gyes 10 rfl rfl (lt_ok rfl) rfl (Step.move (p := (.one (.d (.int .i64 n)))) rfl rfl (lt_ok rfl) rfl) ?_
  refine TL.gyes 10 rfl rfl (lt_ok rfl) rfl (Step.move (p := (.one (.d (.int .i64 high)))) rfl rfl (lt_ok rfl) rfl) ?_
  refine TL.gyes 10 rfl rfl (lt_ok rfl) rfl (Step.bin rfl rfl (lt_ok rfl) rfl rfl (Bin.leq (k := .i64) (a := n) (b := high))) ?_
  refine TL.cons rfl (Step.pick (b := true) (p := (.one (.d (.bool (decide (n ≤ high)))))) rfl rfl (lt_ok rfl) rfl rfl) ?_
  refine TL.cons rfl (Step.assign (p := (.one (.d (.bool (decide (n ≤ high)))))) rfl rfl (lt_ok rfl) rfl) ?_
  refine TL.nil ?_
  refine T.ret ?_
  exact ⟨[(false, [.d (.bool (decide (n ≤ high)))])], (.cons rfl .nil), rfl, [], (RetC.rd' (by first | (congr 1; simp_all; done) | (congr 1; simp_all; omega)) .nil)⟩
 ·
  refine TL.known 10 hb1 rfl ?_
  refine TL.goff 10 rfl rfl (lt_ok rfl) rfl rfl rfl (lt_ok rfl) ?_
  refine TL.goff 10 rfl rfl (lt_ok rfl) rfl rfl rfl (lt_ok rfl) ?_
  refine TL.goff 10 rfl rfl (lt_ok rfl) rfl rfl rfl (lt_ok rfl) ?_
  refine TL.cons rfl (Step.pick (b := false) (p := (.one (.d (.bool false)))) rfl rfl (lt_ok rfl) rfl rfl) ?_
  refine TL.cons rfl (Step.assign (p := (.one (.d (.bool false)))) rfl rfl (lt_ok rfl) rfl) ?_
  refine TL.nil ?_
  refine T.ret ?_
  exact ⟨[(false, [.d (.bool false)])], (.cons rfl .nil), rfl, [], (RetC.rd' (by first | (congr 1; simp_all; done) | (congr 1; simp_all; omega)) .nil)⟩
theorem ok_impl_LimitsOk (l : SLimits) : RO Try.prog 135 [.agg l.cells] [(false, [.rd (.bool (limOk l))])] := by
 refine RO.intro Try.func135 rfl 26 rfl (le_ok rfl) fun w Z => ?_
 refine T.seq ?_
 refine T.region ?_
 refine TL.cons rfl (Step.box (p := (.agg [.d (.int .i64 l.f0), .d (.int .i64 l.f1), .d (.int .i64 l.f2), .d (.int .i64 l.f3), .d (.int .i64 l.f4)])) (ps := [.d (.int .i64 l.f0), .d (.int .i64 l.f1), .d (.int .i64 l.f2), .d (.int .i64 l.f3), .d (.int .i64 l.f4)]) rfl rfl (lt_ok rfl) rfl rfl rfl rfl rfl) ?_
 refine TL.cons rfl (Step.assign (p := (.one (.d (.bool false)))) rfl rfl (lt_ok rfl) rfl) ?_
 refine TL.nil ?_
 refine T.seq ?_
 refine T.region ?_
 refine TL.cons rfl (Step.fieldAddr (q := 0) (off := 0) (n := 1) (one := true) rfl rfl (lt_ok rfl) (by kernel_rfl) (Nat.succ_ne_zero _) rfl) ?_
 refine TL.cons rfl (Step.load_box (c := .d (.int .i64 l.f0)) rfl rfl (lt_ok rfl) (by kernel_rfl) rfl rfl rfl) ?_
 refine TL.cons rfl (Step.call (f := 117) (xs := [.tmp 4, .const (.int .i64 1), .const (.int .i64 10)]) (ps := [(.one (.d (.int .i64 l.f0))), (.one (.d (.int .i64 1))), (.one (.d (.int .i64 10)))]) false (g := .func 117) rfl rfl (lt_ok rfl) rfl (by kernel_rfl) rfl (.cons (.one (.d _)) (.cons (.one (.d _)) (.cons (.one (.d _)) .nil))) (ok_impl_within l.f0 1 10) (.inr rfl) rfl (by simp) rfl) ?_
 refine TL.cons rfl (Step.move (p := (.one (.d (.bool (decide (1 ≤ l.f0 ∧ l.f0 ≤ 10)))))) rfl rfl (lt_ok rfl) rfl) ?_
 rcases Bool.eq_false_or_eq_true (decide (1 ≤ l.f0 ∧ l.f0 ≤ 10)) with hb1 | hb1
 ·
  refine TL.known 6 hb1 rfl ?_
  refine TL.gyes 6 rfl rfl (lt_ok rfl) rfl (Step.fieldAddr (q := 0) (off := 1) (n := 1) (one := true) rfl rfl (lt_ok rfl) (by kernel_rfl) (Nat.succ_ne_zero _) rfl) ?_
  refine TL.gyes 6 rfl rfl (lt_ok rfl) rfl (Step.load_box (c := .d (.int .i64 l.f1)) rfl rfl (lt_ok rfl) (by kernel_rfl) rfl rfl rfl) ?_
  refine TL.gyes 6 rfl rfl (lt_ok rfl) rfl (Step.call (f := 117) (xs := [.tmp 8, .const (.int .i64 0), .const (.int .i64 40)]) (ps := [(.one (.d (.int .i64 l.f1))), (.one (.d (.int .i64 0))), (.one (.d (.int .i64 40)))]) false (g := .func 117) rfl rfl (lt_ok rfl) rfl (by kernel_rfl) rfl (.cons (.one (.d _)) (.cons (.one (.d _)) (.cons (.one (.d _)) .nil))) (ok_impl_within l.f1 0 40) (.inr rfl) rfl (by simp) rfl) ?_
  refine TL.cons rfl (Step.pick (b := true) (p := (.one (.d (.bool (decide (0 ≤ l.f1 ∧ l.f1 ≤ 40)))))) rfl rfl (lt_ok rfl) rfl rfl) ?_
  refine TL.cons rfl (Step.move (p := (.one (.d (.bool (decide (0 ≤ l.f1 ∧ l.f1 ≤ 40)))))) rfl rfl (lt_ok rfl) rfl) ?_
  rcases Bool.eq_false_or_eq_true (decide (0 ≤ l.f1 ∧ l.f1 ≤ 40)) with hb2 | hb2
  ·
   refine TL.known 11 hb2 rfl ?_
   refine TL.gyes 11 rfl rfl (lt_ok rfl) rfl (Step.fieldAddr (q := 0) (off := 2) (n := 1) (one := true) rfl rfl (lt_ok rfl) (by kernel_rfl) (Nat.succ_ne_zero _) rfl) ?_
   refine TL.gyes 11 rfl rfl (lt_ok rfl) rfl (Step.load_box (c := .d (.int .i64 l.f2)) rfl rfl (lt_ok rfl) (by kernel_rfl) rfl rfl rfl) ?_
   refine TL.gyes 11 rfl rfl (lt_ok rfl) rfl (Step.call (f := 117) (xs := [.tmp 13, .const (.int .i64 0), .const (.int .i64 8)]) (ps := [(.one (.d (.int .i64 l.f2))), (.one (.d (.int .i64 0))), (.one (.d (.int .i64 8)))]) false (g := .func 117) rfl rfl (lt_ok rfl) rfl (by kernel_rfl) rfl (.cons (.one (.d _)) (.cons (.one (.d _)) (.cons (.one (.d _)) .nil))) (ok_impl_within l.f2 0 8) (.inr rfl) rfl (by simp) rfl) ?_
   refine TL.cons rfl (Step.pick (b := true) (p := (.one (.d (.bool (decide (0 ≤ l.f2 ∧ l.f2 ≤ 8)))))) rfl rfl (lt_ok rfl) rfl rfl) ?_
   refine TL.cons rfl (Step.move (p := (.one (.d (.bool (decide (0 ≤ l.f2 ∧ l.f2 ≤ 8)))))) rfl rfl (lt_ok rfl) rfl) ?_
   rcases Bool.eq_false_or_eq_true (decide (0 ≤ l.f2 ∧ l.f2 ≤ 8)) with hb3 | hb3
   ·
    refine TL.known 16 hb3 rfl ?_
    refine TL.gyes 16 rfl rfl (lt_ok rfl) rfl (Step.fieldAddr (q := 0) (off := 3) (n := 1) (one := true) rfl rfl (lt_ok rfl) (by kernel_rfl) (Nat.succ_ne_zero _) rfl) ?_
    refine TL.gyes 16 rfl rfl (lt_ok rfl) rfl (Step.load_box (c := .d (.int .i64 l.f3)) rfl rfl (lt_ok rfl) (by kernel_rfl) rfl rfl rfl) ?_
    refine TL.gyes 16 rfl rfl (lt_ok rfl) rfl (Step.call (f := 117) (xs := [.tmp 18, .const (.int .i64 1), .const (.int .i64 4000)]) (ps := [(.one (.d (.int .i64 l.f3))), (.one (.d (.int .i64 1))), (.one (.d (.int .i64 4000)))]) false (g := .func 117) rfl rfl (lt_ok rfl) rfl (by kernel_rfl) rfl (.cons (.one (.d _)) (.cons (.one (.d _)) (.cons (.one (.d _)) .nil))) (ok_impl_within l.f3 1 4000) (.inr rfl) rfl (by simp) rfl) ?_
    refine TL.cons rfl (Step.pick (b := true) (p := (.one (.d (.bool (decide (1 ≤ l.f3 ∧ l.f3 ≤ 4000)))))) rfl rfl (lt_ok rfl) rfl rfl) ?_
    refine TL.cons rfl (Step.move (p := (.one (.d (.bool (decide (1 ≤ l.f3 ∧ l.f3 ≤ 4000)))))) rfl rfl (lt_ok rfl) rfl) ?_
    rcases Bool.eq_false_or_eq_true (decide (1 ≤ l.f3 ∧ l.f3 ≤ 4000)) with hb4 | hb4
    ·
     refine TL.known 21 hb4 rfl ?_
     refine TL.gyes 21 rfl rfl (lt_ok rfl) rfl (Step.fieldAddr (q := 0) (off := 4) (n := 1) (one := true) rfl rfl (lt_ok rfl) (by kernel_rfl) (Nat.succ_ne_zero _) rfl) ?_
     refine TL.gyes 21 rfl rfl (lt_ok rfl) rfl (Step.load_box (c := .d (.int .i64 l.f4)) rfl rfl (lt_ok rfl) (by kernel_rfl) rfl rfl rfl) ?_
     refine TL.gyes 21 rfl rfl (lt_ok rfl) rfl (Step.call (f := 117) (xs := [.tmp 23, .const (.int .i64 3), .const (.int .i64 5)]) (ps := [(.one (.d (.int .i64 l.f4))), (.one (.d (.int .i64 3))), (.one (.d (.int .i64 5)))]) false (g := .func 117) rfl rfl (lt_ok rfl) rfl (by kernel_rfl) rfl (.cons (.one (.d _)) (.cons (.one (.d _)) (.cons (.one (.d _)) .nil))) (ok_impl_within l.f4 3 5) (.inr rfl) rfl (by simp) rfl) ?_
     refine TL.cons rfl (Step.pick (b := true) (p := (.one (.d (.bool (decide (3 ≤ l.f4 ∧ l.f4 ≤ 5)))))) rfl rfl (lt_ok rfl) rfl rfl) ?_
     refine TL.cons rfl (Step.assign (p := (.one (.d (.bool (decide (3 ≤ l.f4 ∧ l.f4 ≤ 5)))))) rfl rfl (lt_ok rfl) rfl) ?_
     refine TL.nil ?_
     refine T.ret ?_
     exact ⟨[(false, [.d (.bool (decide (3 ≤ l.f4 ∧ l.f4 ≤ 5)))])], (.cons rfl .nil), rfl, [], (RetC.rd' (by first | rfl | (congr 1; symm; simp only [limOk, *, Bool.and_true, Bool.true_and, Bool.and_false, Bool.false_and, decide_true, decide_false, and_true, true_and, and_self, and_false, false_and, Bool.and_self, not_true, not_false, Bool.not_true, Bool.not_false, ge_iff_le, gt_iff_lt, if_true, if_false, Bool.false_eq_true, ite_true, ite_false, reduceIte]; done) | (congr 1; symm; simp_all [limOk]; done) | (congr 1; symm; simp_all [limOk]; omega)) .nil)⟩
    ·
     refine TL.known 21 hb4 rfl ?_
     refine TL.goff 21 rfl rfl (lt_ok rfl) rfl rfl rfl (lt_ok rfl) ?_
     refine TL.goff 21 rfl rfl (lt_ok rfl) rfl rfl rfl (lt_ok rfl) ?_
     refine TL.goff 21 rfl rfl (lt_ok rfl) rfl rfl rfl (lt_ok rfl) ?_
     refine TL.cons rfl (Step.pick (b := false) (p := (.one (.d (.bool false)))) rfl rfl (lt_ok rfl) rfl rfl) ?_
     refine TL.cons rfl (Step.assign (p := (.one (.d (.bool false)))) rfl rfl (lt_ok rfl) rfl) ?_
     refine TL.nil ?_
     refine T.ret ?_
     exact ⟨[(false, [.d (.bool false)])], (.cons rfl .nil), rfl, [], (RetC.rd' (by first | rfl | (congr 1; symm; simp only [limOk, *, Bool.and_true, Bool.true_and, Bool.and_false, Bool.false_and, decide_true, decide_false, and_true, true_and, and_self, and_false, false_and, Bool.and_self, not_true, not_false, Bool.not_true, Bool.not_false, ge_iff_le, gt_iff_lt, if_true, if_false, Bool.false_eq_true, ite_true, ite_false, reduceIte]; done) | (congr 1; symm; simp_all [limOk]; done) | (congr 1; symm; simp_all [limOk]; omega)) .nil)⟩
   ·
    refine TL.known 16 hb3 rfl ?_
    refine TL.goff 16 rfl rfl (lt_ok rfl) rfl rfl rfl (lt_ok rfl) ?_
    refine TL.goff 16 rfl rfl (lt_ok rfl) rfl rfl rfl (lt_ok rfl) ?_
    refine TL.goff 16 rfl rfl (lt_ok rfl) rfl rfl rfl (lt_ok rfl) ?_
    refine TL.cons rfl (Step.pick (b := false) (p := (.one (.d (.bool false)))) rfl rfl (lt_ok rfl) rfl rfl) ?_
    refine TL.cons rfl (Step.move (p := (.one (.d (.bool false)))) rfl rfl (lt_ok rfl) rfl) ?_
    refine TL.goff 21 rfl rfl (lt_ok rfl) rfl rfl rfl (lt_ok rfl) ?_
    refine TL.goff 21 rfl rfl (lt_ok rfl) rfl rfl rfl (lt_ok rfl) ?_
    refine TL.goff 21 rfl rfl (lt_ok rfl) rfl rfl rfl (lt_ok rfl) ?_
    refine TL.cons rfl (Step.pick (b := false) (p := (.one (.d (.bool false)))) rfl rfl (lt_ok rfl) rfl rfl) ?_
    refine TL.cons rfl (Step.assign (p := (.one (.d (.bool false)))) rfl rfl (lt_ok rfl) rfl) ?_
    refine TL.nil ?_
    refine T.ret ?_
    exact ⟨[(false, [.d (.bool false)])], (.cons rfl .nil), rfl, [], (RetC.rd' (by first | rfl | (congr 1; symm; simp only [limOk, *, Bool.and_true, Bool.true_and, Bool.and_false, Bool.false_and, decide_true, decide_false, and_true, true_and, and_self, and_false, false_and, Bool.and_self, not_true, not_false, Bool.not_true, Bool.not_false, ge_iff_le, gt_iff_lt, if_true, if_false, Bool.false_eq_true, ite_true, ite_false, reduceIte]; done) | (congr 1; symm; simp_all [limOk]; done) | (congr 1; symm; simp_all [limOk]; omega)) .nil)⟩
  ·
   refine TL.known 11 hb2 rfl ?_
   refine TL.goff 11 rfl rfl (lt_ok rfl) rfl rfl rfl (lt_ok rfl) ?_
   refine TL.goff 11 rfl rfl (lt_ok rfl) rfl rfl rfl (lt_ok rfl) ?_
   refine TL.goff 11 rfl rfl (lt_ok rfl) rfl rfl rfl (lt_ok rfl) ?_
   refine TL.cons rfl (Step.pick (b := false) (p := (.one (.d (.bool false)))) rfl rfl (lt_ok rfl) rfl rfl) ?_
   refine TL.cons rfl (Step.move (p := (.one (.d (.bool false)))) rfl rfl (lt_ok rfl) rfl) ?_
   refine TL.goff 16 rfl rfl (lt_ok rfl) rfl rfl rfl (lt_ok rfl) ?_
   refine TL.goff 16 rfl rfl (lt_ok rfl) rfl rfl rfl (lt_ok rfl) ?_
   refine TL.goff 16 rfl rfl (lt_ok rfl) rfl rfl rfl (lt_ok rfl) ?_
   refine TL.cons rfl (Step.pick (b := false) (p := (.one (.d (.bool false)))) rfl rfl (lt_ok rfl) rfl rfl) ?_
   refine TL.cons rfl (Step.move (p := (.one (.d (.bool false)))) rfl rfl (lt_ok rfl) rfl) ?_
   refine TL.goff 21 rfl rfl (lt_ok rfl) rfl rfl rfl (lt_ok rfl) ?_
   refine TL.goff 21 rfl rfl (lt_ok rfl) rfl rfl rfl (lt_ok rfl) ?_
   refine TL.goff 21 rfl rfl (lt_ok rfl) rfl rfl rfl (lt_ok rfl) ?_
   refine TL.cons rfl (Step.pick (b := false) (p := (.one (.d (.bool false)))) rfl rfl (lt_ok rfl) rfl rfl) ?_
   refine TL.cons rfl (Step.assign (p := (.one (.d (.bool false)))) rfl rfl (lt_ok rfl) rfl) ?_
   refine TL.nil ?_
   refine T.ret ?_
   exact ⟨[(false, [.d (.bool false)])], (.cons rfl .nil), rfl, [], (RetC.rd' (by first | rfl | (congr 1; symm; simp only [limOk, *, Bool.and_true, Bool.true_and, Bool.and_false, Bool.false_and, decide_true, decide_false, and_true, true_and, and_self, and_false, false_and, Bool.and_self, not_true, not_false, Bool.not_true, Bool.not_false, ge_iff_le, gt_iff_lt, if_true, if_false, Bool.false_eq_true, ite_true, ite_false, reduceIte]; done) | (congr 1; symm; simp_all [limOk]; done) | (congr 1; symm; simp_all [limOk]; omega)) .nil)⟩
 ·
  refine TL.known 6 hb1 rfl ?_
  refine TL.goff 6 rfl rfl (lt_ok rfl) rfl rfl rfl (lt_ok rfl) ?_
  refine TL.goff 6 rfl rfl (lt_ok rfl) rfl rfl rfl (lt_ok rfl) ?_
  refine TL.goff 6 rfl rfl (lt_ok rfl) rfl rfl rfl (lt_ok rfl) ?_
  refine TL.cons rfl (Step.pick (b := false) (p := (.one (.d (.bool false)))) rfl rfl (lt_ok rfl) rfl rfl) ?_
  refine TL.cons rfl (Step.move (p := (.one (.d (.bool false)))) rfl rfl (lt_ok rfl) rfl) ?_
  refine TL.goff 11 rfl rfl (lt_ok rfl) rfl rfl rfl (lt_ok rfl) ?_
  refine TL.goff 11 rfl rfl (lt_ok rfl) rfl rfl rfl (lt_ok rfl) ?_
  refine TL.goff 11 rfl rfl (lt_ok rfl) rfl rfl rfl (lt_ok rfl) ?_
  refine TL.cons rfl (Step.pick (b := false) (p := (.one (.d (.bool false)))) rfl rfl (lt_ok rfl) rfl rfl) ?_
  refine TL.cons rfl (Step.move (p := (.one (.d (.bool false)))) rfl rfl (lt_ok rfl) rfl) ?_
  refine TL.goff 16 rfl rfl (lt_ok rfl) rfl rfl rfl (lt_ok rfl) ?_
  refine TL.goff 16 rfl rfl (lt_ok rfl) rfl rfl rfl (lt_ok rfl) ?_
  refine TL.goff 16 rfl rfl (lt_ok rfl) rfl rfl rfl (lt_ok rfl) ?_
  refine TL.cons rfl (Step.pick (b := false) (p := (.one (.d (.bool false)))) rfl rfl (lt_ok rfl) rfl rfl) ?_
  refine TL.cons rfl (Step.move (p := (.one (.d (.bool false)))) rfl rfl (lt_ok rfl) rfl) ?_
  refine TL.goff 21 rfl rfl (lt_ok rfl) rfl rfl rfl (lt_ok rfl) ?_
  refine TL.goff 21 rfl rfl (lt_ok rfl) rfl rfl rfl (lt_ok rfl) ?_
  refine TL.goff 21 rfl rfl (lt_ok rfl) rfl rfl rfl (lt_ok rfl) ?_
  refine TL.cons rfl (Step.pick (b := false) (p := (.one (.d (.bool false)))) rfl rfl (lt_ok rfl) rfl rfl) ?_
  refine TL.cons rfl (Step.assign (p := (.one (.d (.bool false)))) rfl rfl (lt_ok rfl) rfl) ?_
  refine TL.nil ?_
  refine T.ret ?_
  exact ⟨[(false, [.d (.bool false)])], (.cons rfl .nil), rfl, [], (RetC.rd' (by first | rfl | (congr 1; symm; simp only [limOk, *, Bool.and_true, Bool.true_and, Bool.and_false, Bool.false_and, decide_true, decide_false, and_true, true_and, and_self, and_false, false_and, Bool.and_self, not_true, not_false, Bool.not_true, Bool.not_false, ge_iff_le, gt_iff_lt, if_true, if_false, Bool.false_eq_true, ite_true, ite_false, reduceIte]; done) | (congr 1; symm; simp_all [limOk]; done) | (congr 1; symm; simp_all [limOk]; omega)) .nil)⟩
theorem ok_math_bits_OnesCount8 (x : Int) (h0_ : 0 ≤ x ∧ x ≤ 255) : RO Try.prog 183 [.one (.int .u8 x)] [(false, [.rd (.int .i64 (ones x))])] := by
 refine RO.intro Try.func183 rfl 6 rfl (le_ok rfl) fun w Z => ?_
 have ho_ := ones_bd x
 refine T.seq ?_
 refine T.region ?_
 refine TL.cons rfl (Step.assign (p := (.one (.d (.int .i64 0)))) rfl rfl (lt_ok rfl) rfl) ?_
 refine TL.nil ?_
 refine T.seq ?_
 refine T.region ?_
 refine TL.cons rfl (Step.move (p := (.one (.d (.int .u8 x)))) rfl rfl (lt_ok rfl) rfl) ?_
 refine TL.cons rfl (Step.index_str (c := (ones x)) rfl rfl (lt_ok rfl) (by kernel_rfl) rfl rfl (by first | omega | (simp; omega)) (by obtain ⟨n, hn⟩ : ∃ n : Fin 256, x = ((n.val : Nat) : Int) := ⟨⟨x.toNat, by omega⟩, by simp only; omega⟩; subst hn; clear h0_ ho_; revert n; decide +kernel)) ?_
 refine TL.cons rfl (Step.conv (c := (ones x)) rfl rfl (lt_ok rfl) (by kernel_rfl) (by kernel_rfl) rfl (wrap_ok (by first | omega | (simp; omega)) (by first | omega | (simp; omega)))) ?_
 refine TL.cons rfl (Step.assign (p := (.one (.d (.int .i64 (ones x))))) rfl rfl (lt_ok rfl) rfl) ?_
 refine TL.nil ?_
 refine T.ret ?_
 exact ⟨[(false, [.d (.int .i64 (ones x))])], (.cons rfl .nil), rfl, [], (RetC.rd' (by rfl) .nil)⟩
theorem ok_impl_BitsCount (b : List Int) (h0_ : U8s b) (h1_ : b.length ≤ 1099511627776) : RO Try.prog 139 [.one (.ints .u8 b)] [(false, [.rd (.int .i64 ((bitList b).length : Int))])] := by
 refine RO.intro Try.func139 rfl 18 rfl (le_ok rfl) fun w Z => ?_
 refine T.bnd 0 0 rfl rfl fun hb_0_0 => ?_
 simp only [D.size, List.length_map] at hb_0_0
 refine T.seq ?_
 refine T.region ?_
 refine TL.cons rfl (Step.assign (p := (.one (.d (.int .i64 0)))) rfl rfl (lt_ok rfl) rfl) ?_
 refine TL.nil ?_
 refine T.seq ?_
 refine T.region ?_
 refine TL.cons rfl (Step.assign (p := (.one (.d (.int .i64 0)))) rfl rfl (lt_ok rfl) rfl) ?_
 refine TL.nil ?_
 refine T.seq ?_
 refine T.seq ?_
 refine T.region ?_
 refine TL.cons rfl (Step.move (p := (.one (.d (.ints .u8 b)))) rfl rfl (lt_ok rfl) rfl) ?_
 refine TL.cons rfl (Step.len (e := 5) (z := 1) (d := (.ints .u8 b)) rfl rfl (lt_ok rfl) (by kernel_rfl) rfl rfl) ?_
 refine TL.cons rfl (Step.move (p := (.one (.d (.int .i64 0)))) rfl rfl (lt_ok rfl) rfl) ?_
 refine TL.nil ?_
 refine T.block ?_
 refine T.loop (ι := Nat × Int) (fun xx_ => { tm := [(2, (.one (.d (.int .i64 0)))), (6, (.one (.d (.ints .u8 b)))), (7, (.one (.d (.int .i64 (b.length : Int))))), (8, (.one (.d (.int .i64 ((xx_.1) : Int))))), (3, (.one (.d (.int .i64 (xx_.2)))))], rows := [], boxes := [] }) (fun xx_ => (xx_.1) ≤ b.length ∧ 0 ≤ (xx_.2) ∧ (xx_.2) ≤ 8 * (xx_.1) ∧ (xx_.2) + onesSum (b.drop (xx_.1)) = ((bitList b).length : Int)) (fun xx_ => b.length - (xx_.1)) (0, 0) ?_ ?_ ?_
 · exact Env.le_mk ⟨rfl, rfl, rfl, by first | rfl | (refine congrArg (fun n => PV.one (.d (.int .i64 n))) ?_; first | omega | (simp; done)), by first | rfl | (refine congrArg (fun n => PV.one (.d (.int .i64 n))) ?_; first | omega | (simp; done)), trivial⟩ trivial trivial
 · (dsimp only; refine ⟨Nat.zero_le _, by omega, by omega, by rw [List.drop_zero, onesSum_all]; omega⟩)
 ·
  intro xx_ hx
  obtain ⟨i, c⟩ := xx_
  try dsimp only at hx ⊢
  obtain ⟨hx1, hx2, hx3, hx4⟩ := hx
  have hob_ := ones_bd (b.getD i 0)
  refine T.seq ?_
  refine T.region ?_
  refine TL.cons rfl (Step.bin rfl rfl (lt_ok rfl) rfl rfl (Bin.lss (k := .i64) (a := (i : Int)) (b := (b.length : Int)))) ?_
  refine TL.nil ?_
  refine T.seq ?_
  refine T.cond (b := decide ((i : Int) < (b.length : Int))) rfl (fun h1 => ?_) (fun h1 => ?_)
  ·
   replace h1 := of_decide_eq_true h1
   refine T.skip ?_
   refine T.seq ?_
   refine T.block ?_
   refine T.seq ?_
   refine T.region ?_
   refine TL.cons rfl (Step.index (e := 5) (z := 1) (i := (i : Int)) rfl rfl (lt_ok rfl) (by kernel_rfl) rfl rfl rfl (lt_ok rfl) rfl (by first | omega | (simp; omega)) (by simp only [D.size]; first | omega | (simp; omega))) ?_
   refine TL.cons rfl (Step.load (e := (.int .u8 (b.getD i 0))) rfl rfl (lt_ok rfl) (by kernel_rfl) rfl rfl) ?_
   refine TL.cons rfl (Step.assign (p := (.one (.d (.int .u8 (b.getD i 0))))) rfl rfl (lt_ok rfl) rfl) ?_
   refine TL.nil ?_
   refine T.region ?_
   refine TL.cons rfl (Step.move (p := (.one (.d (.int .i64 c)))) rfl rfl (lt_ok rfl) rfl) ?_
   refine TL.cons rfl (Step.move (p := (.one (.d (.int .u8 (b.getD i 0))))) rfl rfl (lt_ok rfl) rfl) ?_
   have nn2 := ones_bd (b.getD i 0)
   refine TL.cons rfl (Step.call (f := 183) (xs := [.tmp 13]) (ps := [(.one (.d (.int .u8 (b.getD i 0))))]) false (g := .func 183) rfl rfl (lt_ok rfl) rfl (by kernel_rfl) rfl (.cons (.one (.d _)) .nil) (ok_math_bits_OnesCount8 (b.getD i 0) (by first | assumption | exact getD_u8 (by assumption) _ | omega)) (.inr rfl) rfl (by simp) rfl) ?_
   refine TL.cons rfl (Step.bin (r := .int .i64 (c + (ones (b.getD i 0)))) rfl rfl (lt_ok rfl) rfl rfl (Bin.add (a := c) (b := (ones (b.getD i 0))) (by first | exact wrap_ok (by first | omega | (simp; omega)) (by first | omega | (simp; omega)) | rfl))) ?_
   refine TL.cons rfl (Step.assign (p := (.one (.d (.int .i64 (c + (ones (b.getD i 0))))))) rfl rfl (lt_ok rfl) rfl) ?_
   refine TL.nil ?_
   refine T.region ?_
   refine TL.cons rfl (Step.bin (r := .int .i64 ((i : Int) + 1)) rfl rfl (lt_ok rfl) rfl rfl (Bin.add (a := (i : Int)) (b := 1) (by first | exact wrap_ok (by first | omega | (simp; omega)) (by first | omega | (simp; omega)) | rfl))) ?_
   refine TL.cons rfl (Step.move (p := (.one (.d (.int .i64 ((i : Int) + 1))))) rfl rfl (lt_ok rfl) rfl) ?_
   refine TL.nil ?_
   exact ⟨(i + 1, c + (ones (b.getD i 0))), by (try dsimp only); (refine ⟨by omega, by omega, by omega, ?_⟩; rw [← hx4, onesSum_drop b (i := i) (by omega)]; omega), by (dsimp only; omega), Env.le_mk ⟨rfl, rfl, rfl, by first | rfl | (refine congrArg (fun n => PV.one (.d (.int .i64 n))) ?_; first | omega | (simp; done)), by first | rfl | (refine congrArg (fun n => PV.one (.d (.int .i64 n))) ?_; first | omega | (simp; done)), trivial⟩ trivial trivial⟩
  ·
   replace h1 := of_decide_eq_false h1
   refine T.exit ?_
   refine T.seq ?_
   refine T.region ?_
   refine TL.cons rfl (Step.move (p := (.one (.d (.int .i64 c)))) rfl rfl (lt_ok rfl) rfl) ?_
   refine TL.cons rfl (Step.assign (p := (.one (.d (.int .i64 c)))) rfl rfl (lt_ok rfl) rfl) ?_
   refine TL.nil ?_
   refine T.ret ?_
   exact ⟨[(false, [.d (.int .i64 c)])], (.cons rfl .nil), rfl, [], (RetC.rd' (by (congr 1; rw [← hx4, List.drop_of_length_le (by omega)]; simp [onesSum])) .nil)⟩
theorem ok_impl_isNum (n : Int) : RO Try.prog 155 [.one (.int .i64 n)] [(false, [.rd (.bool (decide (0 ≤ n ∧ n ≤ 1152921504606846975)))])] := by
 refine RO.intro Try.func155 rfl 5 rfl (le_ok rfl) fun w Z => ?_
 refine T.seq ?_
 refine T.region ?_
 refine TL.cons rfl (Step.assign (p := (.one (.d (.bool false)))) rfl rfl (lt_ok rfl) rfl) ?_
 refine TL.nil ?_
 refine T.seq ?_
 refine T.region ?_
 refine TL.cons rfl (Step.move (p := (.one (.d (.int .i64 n)))) rfl rfl (lt_ok rfl) rfl) ?_
 refine TL.cons rfl (Step.call (f := 117) (xs := [.tmp 3, .const (.int .i64 0), .const (.int .i64 1152921504606846975)]) (ps := [(.one (.d (.int .i64 n))), (.one (.d (.int .i64 0))), (.one (.d (.int .i64 1152921504606846975)))]) false (g := .func 117) rfl rfl (lt_ok rfl) rfl (by kernel_rfl) rfl (.cons (.one (.d _)) (.cons (.one (.d _)) (.cons (.one (.d _)) .nil))) (ok_impl_within n 0 1152921504606846975) (.inr rfl) rfl (by simp) rfl) ?_
 refine TL.cons rfl (Step.assign (p := (.one (.d (.bool (decide (0 ≤ n ∧ n ≤ 1152921504606846975)))))) rfl rfl (lt_ok rfl) rfl) ?_
 refine TL.nil ?_
 refine T.ret ?_
 exact ⟨[(false, [.d (.bool (decide (0 ≤ n ∧ n ≤ 1152921504606846975)))])], (.cons rfl .nil), rfl, [], (RetC.rd' (by rfl) .nil)⟩
theorem ok_impl_areHashes (l : List (List Int)) : RO Try.prog 156 [.one (.bss l)] [(false, [.rd (.bool (hashes l))])] := by
 refine RO.intro Try.func156 rfl 15 rfl (le_ok rfl) fun w Z => ?_
 refine T.bnd 0 0 rfl rfl fun hb_0_0 => ?_
 simp only [D.size, List.length_map] at hb_0_0
 refine T.seq ?_
 refine T.region ?_
 refine TL.cons rfl (Step.assign (p := (.one (.d (.bool false)))) rfl rfl (lt_ok rfl) rfl) ?_
 refine TL.nil ?_
 refine T.seq ?_
 refine T.seq ?_
 refine T.region ?_
 refine TL.cons rfl (Step.move (p := (.one (.d (.bss l)))) rfl rfl (lt_ok rfl) rfl) ?_
 refine TL.cons rfl (Step.len (e := 24) (z := 1) (d := (.bss l)) rfl rfl (lt_ok rfl) (by kernel_rfl) rfl rfl) ?_
 refine TL.cons rfl (Step.move (p := (.one (.d (.int .i64 0)))) rfl rfl (lt_ok rfl) rfl) ?_
 refine TL.nil ?_
 refine T.block ?_
 refine T.loop (ι := Nat) (fun xx_ => { tm := [(5, (.one (.d (.bss l)))), (6, (.one (.d (.int .i64 (l.length : Int))))), (7, (.one (.d (.int .i64 (xx_ : Int)))))], rows := [], boxes := [] }) (fun xx_ => xx_ ≤ l.length ∧ hashes (l.take xx_) = true) (fun xx_ => l.length - xx_) 0 ?_ ?_ ?_
 · exact Env.le_mk ⟨rfl, rfl, by first | rfl | (simp; done) | (congr 3; omega), trivial⟩ trivial trivial
 · (refine ⟨Nat.zero_le _, by rw [List.take_zero]; rfl⟩)
 ·
  intro i hx
  try dsimp only at hx ⊢
  obtain ⟨hx1, hx2⟩ := hx
  refine T.seq ?_
  refine T.region ?_
  refine TL.cons rfl (Step.bin rfl rfl (lt_ok rfl) rfl rfl (Bin.lss (k := .i64) (a := (i : Int)) (b := (l.length : Int)))) ?_
  refine TL.nil ?_
  refine T.seq ?_
  refine T.cond (b := decide ((i : Int) < (l.length : Int))) rfl (fun h1 => ?_) (fun h1 => ?_)
  ·
   replace h1 := of_decide_eq_true h1
   refine T.skip ?_
   refine T.seq ?_
   refine T.block ?_
   refine T.seq ?_
   refine T.region ?_
   refine TL.cons rfl (Step.index (e := 24) (z := 1) (i := (i : Int)) rfl rfl (lt_ok rfl) (by kernel_rfl) rfl rfl rfl (lt_ok rfl) rfl (by first | omega | (simp; omega)) (by simp only [D.size]; first | omega | (simp; omega))) ?_
   refine TL.cons rfl (Step.load (e := (.ints .u8 (l.getD i []))) rfl rfl (lt_ok rfl) (by kernel_rfl) rfl rfl) ?_
   refine TL.cons rfl (Step.assign (p := (.one (.d (.ints .u8 (l.getD i []))))) rfl rfl (lt_ok rfl) rfl) ?_
   refine TL.nil ?_
   refine T.seq ?_
   refine T.region ?_
   refine TL.cons rfl (Step.move (p := (.one (.d (.ints .u8 (l.getD i []))))) rfl rfl (lt_ok rfl) rfl) ?_
   refine TL.cons rfl (Step.len (e := 5) (z := 1) (d := (.ints .u8 (l.getD i []))) rfl rfl (lt_ok rfl) (by kernel_rfl) rfl rfl) ?_
   refine TL.cons rfl (Step.bin rfl rfl (lt_ok rfl) rfl rfl (Bin.neq (k := .i64) (a := ((l.getD i []).length : Int)) (b := 32))) ?_
   refine TL.nil ?_
   refine T.cond (b := decide (((l.getD i []).length : Int) ≠ 32)) rfl (fun h2 => ?_) (fun h2 => ?_)
   ·
    replace h2 := of_decide_eq_true h2
    refine T.seq ?_
    refine T.region ?_
    refine TL.cons rfl (Step.assign (p := (.one (.d (.bool false)))) rfl rfl (lt_ok rfl) rfl) ?_
    refine TL.nil ?_
    refine T.ret ?_
    exact ⟨[(false, [.d (.bool false)])], (.cons rfl .nil), rfl, [], (RetC.rd' (by (congr 1; symm; first | (exact hashes_no (i := i) (by omega) (by omega)) | (rw [List.take_of_length_le (by omega)] at hx2; exact hx2))) .nil)⟩
   ·
    replace h2 := of_decide_eq_false h2
    refine T.skip ?_
    refine T.region ?_
    refine TL.cons rfl (Step.bin (r := .int .i64 ((i : Int) + 1)) rfl rfl (lt_ok rfl) rfl rfl (Bin.add (a := (i : Int)) (b := 1) (by first | exact wrap_ok (by first | omega | (simp; omega)) (by first | omega | (simp; omega)) | rfl))) ?_
    refine TL.cons rfl (Step.move (p := (.one (.d (.int .i64 ((i : Int) + 1))))) rfl rfl (lt_ok rfl) rfl) ?_
    refine TL.nil ?_
    exact ⟨i + 1, by (refine ⟨by omega, hashes_step (by omega) hx2 (by omega)⟩), by first | omega | (dsimp only; omega), Env.le_mk ⟨rfl, rfl, by first | rfl | (simp; done) | (congr 3; omega), trivial⟩ trivial trivial⟩
  ·
   replace h1 := of_decide_eq_false h1
   refine T.exit ?_
   refine T.seq ?_
   refine T.region ?_
   refine TL.cons rfl (Step.assign (p := (.one (.d (.bool true)))) rfl rfl (lt_ok rfl) rfl) ?_
   refine TL.nil ?_
   refine T.ret ?_
   exact ⟨[(false, [.d (.bool true)])], (.cons rfl .nil), rfl, [], (RetC.rd' (by (congr 1; symm; first | (exact hashes_no (i := i) (by omega) (by omega)) | (rw [List.take_of_length_le (by omega)] at hx2; exact hx2))) .nil)⟩
theorem ok_impl_BitsSize (n : Int) (h0_ : n ≤ 9223372036854775807) : RO Try.prog 182 [.one (.int .i64 n)] [(false, [.rd (.int .i64 (bitsSize n))])] := by
 refine RO.intro Try.func182 rfl 9 rfl (le_ok rfl) fun w Z => ?_
 refine T.seq ?_
 refine T.region ?_
 refine TL.cons rfl (Step.assign (p := (.one (.d (.int .i64 0)))) rfl rfl (lt_ok rfl) rfl) ?_
 refine TL.nil ?_
 refine T.seq ?_
 refine T.seq ?_
 refine T.region ?_
 refine TL.cons rfl (Step.move (p := (.one (.d (.int .i64 n)))) rfl rfl (lt_ok rfl) rfl) ?_
 refine TL.cons rfl (Step.bin rfl rfl (lt_ok rfl) rfl rfl (Bin.lss (k := .i64) (a := n) (b := 1))) ?_
 refine TL.nil ?_
 refine T.cond (b := decide (n < 1)) rfl (fun h1 => ?_) (fun h1 => ?_)
 ·
  replace h1 := of_decide_eq_true h1
  refine T.seq ?_
  refine T.region ?_
  refine TL.cons rfl (Step.assign (p := (.one (.d (.int .i64 0)))) rfl rfl (lt_ok rfl) rfl) ?_
  refine TL.nil ?_
  refine T.ret ?_
  exact ⟨[(false, [.d (.int .i64 0)])], (.cons rfl .nil), rfl, [], (RetC.rd' (by (congr 1; unfold bitsSize; first | rw [if_pos (by omega)] | (rw [if_neg (by omega)]; done) | (rw [if_neg (by omega)]; omega))) .nil)⟩
 ·
  replace h1 := of_decide_eq_false h1
  refine T.skip ?_
  refine T.seq ?_
  refine T.region ?_
  refine TL.cons rfl (Step.move (p := (.one (.d (.int .i64 n)))) rfl rfl (lt_ok rfl) rfl) ?_
  refine TL.cons rfl (Step.bin (r := .int .i64 (n - 1)) rfl rfl (lt_ok rfl) rfl rfl (Bin.sub (a := n) (b := 1) (by first | exact wrap_ok (by first | omega | (simp; omega)) (by first | omega | (simp; omega)) | rfl))) ?_
  refine TL.cons rfl (Step.bin (r := .int .i64 ((n - 1) / 8)) rfl rfl (lt_ok rfl) rfl rfl (Bin.quo (k := .i64) (a := (n - 1)) (b := 8) (by decide) (by rw [Int.tdiv_eq_ediv_of_nonneg (by first | omega | (simp; omega))]; exact wrap_ok (by first | omega | (simp; omega)) (by first | omega | (simp; omega))))) ?_
  refine TL.cons rfl (Step.bin (r := .int .i64 (((n - 1) / 8) + 1)) rfl rfl (lt_ok rfl) rfl rfl (Bin.add (a := ((n - 1) / 8)) (b := 1) (by first | exact wrap_ok (by first | omega | (simp; omega)) (by first | omega | (simp; omega)) | rfl))) ?_
  refine TL.cons rfl (Step.assign (p := (.one (.d (.int .i64 (((n - 1) / 8) + 1))))) rfl rfl (lt_ok rfl) rfl) ?_
  refine TL.nil ?_
  refine T.ret ?_
  exact ⟨[(false, [.d (.int .i64 (((n - 1) / 8) + 1))])], (.cons rfl .nil), rfl, [], (RetC.rd' (by (congr 1; unfold bitsSize; first | rw [if_pos (by omega)] | (rw [if_neg (by omega)]; done) | (rw [if_neg (by omega)]; omega))) .nil)⟩
theorem ok_impl_BitsHas (b : List Int) (i : Int) (h0_ : U8s b) (h1_ : b.length ≤ 17592186044416) (h2_ : i ≤ 9223372036854775807) : RO Try.prog 197 [.one (.ints .u8 b), .one (.int .i64 i)] [(false, [.rd (.bool (bitHas b i))])] := by
 refine RO.intro Try.func197 rfl 23 rfl (le_ok rfl) fun w Z => ?_
 refine T.bnd 0 0 rfl rfl fun hb_0_0 => ?_
 simp only [D.size, List.length_map] at hb_0_0
 have hu_ := getD_u8 h0_ (i / 8).toNat
 have hp_ := div_pow_bd hu_.1 hu_.2 (i % 8).toNat
 refine T.seq ?_
 refine T.region ?_
 refine TL.cons rfl (Step.assign (p := (.one (.d (.bool false)))) rfl rfl (lt_ok rfl) rfl) ?_
 refine TL.nil ?_
 refine T.seq ?_
 refine T.region ?_
 refine TL.cons rfl (Step.move (p := (.one (.d (.int .i64 i)))) rfl rfl (lt_ok rfl) rfl) ?_
 refine TL.cons rfl (Step.move (p := (.one (.d (.ints .u8 b)))) rfl rfl (lt_ok rfl) rfl) ?_
 refine TL.cons rfl (Step.len (e := 5) (z := 1) (d := (.ints .u8 b)) rfl rfl (lt_ok rfl) (by kernel_rfl) rfl rfl) ?_
 refine TL.cons rfl (Step.bin (r := .int .i64 (8 * (b.length : Int))) rfl rfl (lt_ok rfl) rfl rfl (Bin.mul (a := 8) (b := (b.length : Int)) (by first | exact wrap_ok (by first | omega | exact hp_.1 | exact hp_.2 | (simp; omega)) (by first | omega | exact hp_.1 | exact hp_.2 | (simp; omega)) | rfl))) ?_
 refine TL.cons rfl (Step.bin (r := .int .i64 ((8 * (b.length : Int)) - 1)) rfl rfl (lt_ok rfl) rfl rfl (Bin.sub (a := (8 * (b.length : Int))) (b := 1) (by first | exact wrap_ok (by first | omega | exact hp_.1 | exact hp_.2 | (simp; omega)) (by first | omega | exact hp_.1 | exact hp_.2 | (simp; omega)) | rfl))) ?_
 refine TL.cons rfl (Step.call (f := 117) (xs := [.tmp 5, .const (.int .i64 0), .tmp 9]) (ps := [(.one (.d (.int .i64 i))), (.one (.d (.int .i64 0))), (.one (.d (.int .i64 ((8 * (b.length : Int)) - 1))))]) false (g := .func 117) rfl rfl (lt_ok rfl) rfl (by kernel_rfl) rfl (.cons (.one (.d _)) (.cons (.one (.d _)) (.cons (.one (.d _)) .nil))) (ok_impl_within i 0 ((8 * (b.length : Int)) - 1)) (.inr rfl) rfl (by simp) rfl) ?_
 refine TL.cons rfl (Step.move (p := (.one (.d (.bool (decide (0 ≤ i ∧ i ≤ ((8 * (b.length : Int)) - 1))))))) rfl rfl (lt_ok rfl) rfl) ?_
 rcases Bool.eq_false_or_eq_true (decide (0 ≤ i ∧ i ≤ ((8 * (b.length : Int)) - 1))) with hb1 | hb1
 ·
  refine TL.known 11 hb1 rfl ?_
  have hb1' := hb1
  replace hb1' := of_decide_eq_true hb1'
  refine TL.gyes 11 rfl rfl (lt_ok rfl) rfl (Step.move (p := (.one (.d (.ints .u8 b)))) rfl rfl (lt_ok rfl) rfl) ?_
  refine TL.gyes 11 rfl rfl (lt_ok rfl) rfl (Step.move (p := (.one (.d (.int .i64 i)))) rfl rfl (lt_ok rfl) rfl) ?_
  refine TL.gyes 11 rfl rfl (lt_ok rfl) rfl (Step.bin (r := .int .i64 (i / 8)) rfl rfl (lt_ok rfl) rfl rfl (Bin.quo (k := .i64) (a := i) (b := 8) (by decide) (by rw [Int.tdiv_eq_ediv_of_nonneg (by first | omega | exact hp_.1 | exact hp_.2 | (simp; omega))]; exact wrap_ok (by first | omega | exact hp_.1 | exact hp_.2 | (simp; omega)) (by first | omega | exact hp_.1 | exact hp_.2 | (simp; omega))))) ?_
  refine TL.gyes 11 rfl rfl (lt_ok rfl) rfl (Step.index (e := 5) (z := 1) (i := (i / 8)) rfl rfl (lt_ok rfl) (by kernel_rfl) rfl rfl rfl (lt_ok rfl) rfl (by first | omega | exact hp_.1 | exact hp_.2 | (simp; omega)) (by simp only [D.size]; first | omega | exact hp_.1 | exact hp_.2 | (simp; omega))) ?_
  refine TL.gyes 11 rfl rfl (lt_ok rfl) rfl (Step.load (e := (.int .u8 (b.getD (i / 8).toNat 0))) rfl rfl (lt_ok rfl) (by kernel_rfl) rfl rfl) ?_
  refine TL.gyes 11 rfl rfl (lt_ok rfl) rfl (Step.move (p := (.one (.d (.int .i64 i)))) rfl rfl (lt_ok rfl) rfl) ?_
  refine TL.gyes 11 rfl rfl (lt_ok rfl) rfl (Step.bin (r := .int .i64 (i % 8)) rfl rfl (lt_ok rfl) rfl rfl (Bin.rem (k := .i64) (a := i) (b := 8) (by decide) (Int.tmod_eq_emod_of_nonneg (by first | omega | exact hp_.1 | exact hp_.2 | (simp; omega))))) ?_
  refine TL.gyes 11 rfl rfl (lt_ok rfl) rfl (Step.bin (r := .int .u8 ((b.getD (i / 8).toNat 0) / 2 ^ ((i % 8)).toNat)) rfl rfl (lt_ok rfl) rfl rfl (Bin.shr (k := .u8) (k' := .i64) (a := (b.getD (i / 8).toNat 0)) (b := (i % 8)) (by first | omega | exact hp_.1 | exact hp_.2 | (simp; omega)) (shr_ok (by first | omega | exact hp_.1 | exact hp_.2 | (simp; omega)) (by show _ < ((8 : Nat) : Int); first | omega | exact hp_.1 | exact hp_.2 | (simp; omega))))) ?_
  refine TL.gyes 11 rfl rfl (lt_ok rfl) rfl (Step.bin (r := .int .u8 (((b.getD (i / 8).toNat 0) / 2 ^ ((i % 8)).toNat) % 2)) rfl rfl (lt_ok rfl) rfl rfl (Bin.and (k := .u8) (a := ((b.getD (i / 8).toNat 0) / 2 ^ ((i % 8)).toNat)) (b := 1) (and1_u8 (by first | omega | exact hp_.1 | exact hp_.2 | (simp; omega)) (by first | omega | exact hp_.1 | exact hp_.2 | (simp; omega))))) ?_
  refine TL.gyes 11 rfl rfl (lt_ok rfl) rfl (Step.bin rfl rfl (lt_ok rfl) rfl rfl (Bin.eql (k := .u8) (a := (((b.getD (i / 8).toNat 0) / 2 ^ ((i % 8)).toNat) % 2)) (b := 1))) ?_
  refine TL.cons rfl (Step.pick (b := true) (p := (.one (.d (.bool (decide ((((b.getD (i / 8).toNat 0) / 2 ^ ((i % 8)).toNat) % 2) = 1)))))) rfl rfl (lt_ok rfl) rfl rfl) ?_
  refine TL.cons rfl (Step.assign (p := (.one (.d (.bool (decide ((((b.getD (i / 8).toNat 0) / 2 ^ ((i % 8)).toNat) % 2) = 1)))))) rfl rfl (lt_ok rfl) rfl) ?_
  refine TL.nil ?_
  refine T.ret ?_
  exact ⟨[(false, [.d (.bool (decide ((((b.getD (i / 8).toNat 0) / 2 ^ ((i % 8)).toNat) % 2) = 1)))])], (.cons rfl .nil), rfl, [], (RetC.rd' (by (congr 1; symm; unfold bitHas; first | (rw [decide_eq_false (p := 0 ≤ i) (by omega)]; rfl) | (rw [decide_eq_true (p := 0 ≤ i) (by omega), decide_eq_false (p := i / 8 < (b.length : Int)) (by omega)]; rfl) | (rw [decide_eq_true (p := 0 ≤ i) (by omega), decide_eq_true (p := i / 8 < (b.length : Int)) (by omega)]; rfl) | (by_cases hi_ : 0 ≤ i; (rw [decide_eq_true (p := 0 ≤ i) (by omega), decide_eq_false (p := i / 8 < (b.length : Int)) (by omega)]; rfl); (rw [decide_eq_false (p := 0 ≤ i) hi_]; rfl)))) .nil)⟩
 ·
  refine TL.known 11 hb1 rfl ?_
  have hb1' := hb1
  replace hb1' := of_decide_eq_false hb1'
  refine TL.goff 11 rfl rfl (lt_ok rfl) rfl rfl rfl (lt_ok rfl) ?_
  refine TL.goff 11 rfl rfl (lt_ok rfl) rfl rfl rfl (lt_ok rfl) ?_
  refine TL.goff 11 rfl rfl (lt_ok rfl) rfl rfl rfl (lt_ok rfl) ?_
  refine TL.goff 11 rfl rfl (lt_ok rfl) rfl rfl rfl (lt_ok rfl) ?_
  refine TL.goff 11 rfl rfl (lt_ok rfl) rfl rfl rfl (lt_ok rfl) ?_
  refine TL.goff 11 rfl rfl (lt_ok rfl) rfl rfl rfl (lt_ok rfl) ?_
  refine TL.goff 11 rfl rfl (lt_ok rfl) rfl rfl rfl (lt_ok rfl) ?_
  refine TL.goff 11 rfl rfl (lt_ok rfl) rfl rfl rfl (lt_ok rfl) ?_
  refine TL.goff 11 rfl rfl (lt_ok rfl) rfl rfl rfl (lt_ok rfl) ?_
  refine TL.goff 11 rfl rfl (lt_ok rfl) rfl rfl rfl (lt_ok rfl) ?_
  refine TL.cons rfl (Step.pick (b := false) (p := (.one (.d (.bool false)))) rfl rfl (lt_ok rfl) rfl rfl) ?_
  refine TL.cons rfl (Step.assign (p := (.one (.d (.bool false)))) rfl rfl (lt_ok rfl) rfl) ?_
  refine TL.nil ?_
  refine T.ret ?_
  exact ⟨[(false, [.d (.bool false)])], (.cons rfl .nil), rfl, [], (RetC.rd' (by (congr 1; symm; unfold bitHas; first | (rw [decide_eq_false (p := 0 ≤ i) (by omega)]; rfl) | (rw [decide_eq_true (p := 0 ≤ i) (by omega), decide_eq_false (p := i / 8 < (b.length : Int)) (by omega)]; rfl) | (rw [decide_eq_true (p := 0 ≤ i) (by omega), decide_eq_true (p := i / 8 < (b.length : Int)) (by omega)]; rfl) | (by_cases hi_ : 0 ≤ i; (rw [decide_eq_true (p := 0 ≤ i) (by omega), decide_eq_false (p := i / 8 < (b.length : Int)) (by omega)]; rfl); (rw [decide_eq_false (p := 0 ≤ i) hi_]; rfl)))) .nil)⟩
theorem ok_impl_BitsList (b : List Int) (h0_ : U8s b) (h1_ : b.length ≤ 1099511627776) : RO Try.prog 194 [.one (.ints .u8 b)] [(false, [.own 3 (.ints .i64 (bitList b))])] := by
 refine RO.intro Try.func194 rfl 21 rfl (le_ok rfl) fun w Z => ?_
 refine T.bnd 0 0 rfl rfl fun hb_0_0 => ?_
 simp only [D.size, List.length_map] at hb_0_0
 refine T.seq ?_
 refine T.region ?_
 refine TL.cons rfl (Step.assign (p := (.one (.nil))) rfl rfl (lt_ok rfl) rfl) ?_
 refine TL.nil ?_
 refine T.seq ?_
 refine T.region ?_
 refine TL.cons rfl (Step.lit (e := 3) (z := 1) (by_ := 8) (xs := []) (pss := []) (es := []) (ss := []) (d := (.ints .i64 [])) rfl rfl (lt_ok rfl) (by kernel_rfl) rfl rfl .nil (by simp) (le_ok rfl) (le_ok rfl) rfl .nil rfl (by simp) (by simp) rfl trivial rfl rfl) ?_
 refine TL.cons rfl (Step.assign (p := (.one (.row 5 []))) rfl rfl (lt_ok rfl) rfl) ?_
 refine TL.nil ?_
 refine T.seq ?_
 refine T.seq ?_
 refine T.region ?_
 refine TL.cons rfl (Step.move (p := (.one (.d (.ints .u8 b)))) rfl rfl (lt_ok rfl) rfl) ?_
 refine TL.cons rfl (Step.len (e := 5) (z := 1) (d := (.ints .u8 b)) rfl rfl (lt_ok rfl) (by kernel_rfl) rfl rfl) ?_
 refine TL.cons rfl (Step.bin (r := .int .i64 (8 * (b.length : Int))) rfl rfl (lt_ok rfl) rfl rfl (Bin.mul (a := 8) (b := (b.length : Int)) (by first | exact wrap_ok (by first | omega | (simp; omega)) (by first | omega | (simp; omega)) | rfl))) ?_
 refine TL.cons rfl (Step.move (p := (.one (.d (.int .i64 0)))) rfl rfl (lt_ok rfl) rfl) ?_
 refine TL.nil ?_
 refine T.block ?_
 refine T.loop (ι := Nat × (List Int)) (fun xx_ => { tm := [(0, (.one (.d (.ints .u8 b)))), (2, (.one (.nil))), (8, (.one (.d (.int .i64 (8 * (b.length : Int)))))), (9, (.one (.d (.int .i64 ((xx_.1) : Int))))), (3, (.one (.row 5 [])))], rows := [(5, (3, (.ints .i64 (xx_.2))))], boxes := [] }) (fun xx_ => (xx_.1) ≤ 8 * b.length ∧ (xx_.2) ++ bitsGo b (8 * b.length - (xx_.1)) (xx_.1) = bitList b ∧ (xx_.2).length ≤ (xx_.1)) (fun xx_ => 8 * b.length - (xx_.1)) (0, []) ?_ ?_ ?_
 · exact Env.le_mk ⟨rfl, rfl, rfl, by first | rfl | (refine congrArg (fun x => some (_, D.ints .i64 x)) ?_; rfl) | (refine congrArg (fun n => PV.one (.d (.int .i64 n))) ?_; first | omega | (simp; done)), rfl, trivial⟩ ⟨by first | rfl | (refine congrArg (fun x => some (_, D.ints .i64 x)) ?_; rfl) | (refine congrArg (fun n => PV.one (.d (.int .i64 n))) ?_; first | omega | (simp; done)), trivial⟩ trivial
 · (dsimp only; refine ⟨Nat.zero_le _, rfl, Nat.zero_le _⟩)
 ·
  intro xx_ hx
  obtain ⟨i, o⟩ := xx_
  try dsimp only at hx ⊢
  obtain ⟨hx1, hx2, hx3⟩ := hx
  refine T.seq ?_
  refine T.region ?_
  refine TL.cons rfl (Step.bin rfl rfl (lt_ok rfl) rfl rfl (Bin.lss (k := .i64) (a := (i : Int)) (b := (8 * (b.length : Int))))) ?_
  refine TL.nil ?_
  refine T.seq ?_
  refine T.cond (b := decide ((i : Int) < (8 * (b.length : Int)))) rfl (fun h1 => ?_) (fun h1 => ?_)
  ·
   replace h1 := of_decide_eq_true h1
   refine T.skip ?_
   refine T.seq ?_
   refine T.block ?_
   refine T.seq ?_
   refine T.region ?_
   refine TL.cons rfl (Step.move (p := (.one (.d (.int .i64 (i : Int))))) rfl rfl (lt_ok rfl) rfl) ?_
   refine TL.cons rfl (Step.assign (p := (.one (.d (.int .i64 (i : Int))))) rfl rfl (lt_ok rfl) rfl) ?_
   refine TL.nil ?_
   refine T.seq ?_
   refine T.region ?_
   refine TL.cons rfl (Step.move (p := (.one (.d (.ints .u8 b)))) rfl rfl (lt_ok rfl) rfl) ?_
   refine TL.cons rfl (Step.move (p := (.one (.d (.int .i64 (i : Int))))) rfl rfl (lt_ok rfl) rfl) ?_
   refine TL.cons rfl (Step.call (f := 197) (xs := [.tmp 12, .tmp 13]) (ps := [(.one (.d (.ints .u8 b))), (.one (.d (.int .i64 (i : Int))))]) false (g := .func 197) rfl rfl (lt_ok rfl) rfl (by kernel_rfl) rfl (.cons (.one (.d _)) (.cons (.one (.d _)) .nil)) (ok_impl_BitsHas b (i : Int) (by assumption) (by first | omega | assumption | (simp only [List.length_append] at *; omega)) (by first | omega | assumption | (simp only [List.length_append] at *; omega))) (.inr rfl) rfl (by simp) rfl) ?_
   refine TL.nil ?_
   refine T.cond (b := bitHas b (i : Int)) rfl (fun h2 => ?_) (fun h2 => ?_)
   ·
    refine T.region ?_
    refine TL.cons rfl (Step.move (p := (.one (.row 5 []))) rfl rfl (lt_ok rfl) rfl) ?_
    refine TL.cons rfl (Step.move (p := (.one (.d (.int .i64 (i : Int))))) rfl rfl (lt_ok rfl) rfl) ?_
    refine TL.cons rfl (Step.lit (e := 3) (z := 1) (by_ := 8) (xs := [.tmp 16]) (pss := [[.d (.int .i64 (i : Int))]]) (es := [(.int .i64 (i : Int))]) (ss := []) (d := (.ints .i64 [(i : Int)])) rfl rfl (lt_ok rfl) (by kernel_rfl) rfl rfl (.cons rfl .nil) (by simp) (le_ok rfl) (le_ok rfl) rfl (.val rfl .nil) rfl (by simp) (by simp) rfl trivial rfl rfl) ?_
    refine TL.cons rfl (Step.append (e := 3) (z := 1) (by_ := 8) (d := (.ints .i64 o)) (dy := (.ints .i64 [(i : Int)])) (d' := (.ints .i64 (o ++ [(i : Int)]))) (ss := []) rfl rfl (lt_ok rfl) (by kernel_rfl) rfl rfl rfl (lt_ok rfl) rfl (.copy rfl rfl rfl (by simp [D.flat, D.val])) (by simp) rfl (by simp only [D.size, List.length_map]; first | omega | (simp; omega) | (simp only [List.length_append] at *; omega)) (by simp only [D.size, List.length_map]; first | omega | (simp; omega) | (simp only [List.length_append] at *; omega)) (by simp)) ?_
    refine TL.cons rfl (Step.assign (p := (.one (.row 5 []))) rfl rfl (lt_ok rfl) rfl) ?_
    refine TL.nil ?_
    refine T.region ?_
    refine TL.cons rfl (Step.bin (r := .int .i64 ((i : Int) + 1)) rfl rfl (lt_ok rfl) rfl rfl (Bin.add (a := (i : Int)) (b := 1) (by first | exact wrap_ok (by first | omega | (simp; omega)) (by first | omega | (simp; omega)) | rfl))) ?_
    refine TL.cons rfl (Step.move (p := (.one (.d (.int .i64 ((i : Int) + 1))))) rfl rfl (lt_ok rfl) rfl) ?_
    refine TL.nil ?_
    exact ⟨(i + 1, o ++ [(i : Int)]), by (refine ⟨by omega, ?_, by simp only [List.length_append, List.length_cons, List.length_nil]; omega⟩; rw [← hx2, bitsGo_next b (n := 8 * b.length) (i := i) (by omega)]; first | (rw [if_pos (by assumption)]; simp only [List.append_assoc]; done) | (rw [if_neg (by simp [*])]; rfl)), by (dsimp only; omega), Env.le_mk ⟨rfl, rfl, rfl, by first | rfl | (refine congrArg (fun x => some (_, D.ints .i64 x)) ?_; rfl) | (refine congrArg (fun n => PV.one (.d (.int .i64 n))) ?_; first | omega | (simp; done)), rfl, trivial⟩ ⟨by first | rfl | (refine congrArg (fun x => some (_, D.ints .i64 x)) ?_; rfl) | (refine congrArg (fun n => PV.one (.d (.int .i64 n))) ?_; first | omega | (simp; done)), trivial⟩ trivial⟩
   ·
    refine T.skip ?_
    refine T.region ?_
    refine TL.cons rfl (Step.bin (r := .int .i64 ((i : Int) + 1)) rfl rfl (lt_ok rfl) rfl rfl (Bin.add (a := (i : Int)) (b := 1) (by first | exact wrap_ok (by first | omega | (simp; omega)) (by first | omega | (simp; omega)) | rfl))) ?_
    refine TL.cons rfl (Step.move (p := (.one (.d (.int .i64 ((i : Int) + 1))))) rfl rfl (lt_ok rfl) rfl) ?_
    refine TL.nil ?_
    exact ⟨(i + 1, o), by (refine ⟨by omega, ?_, by simp only [List.length_append, List.length_cons, List.length_nil]; omega⟩; rw [← hx2, bitsGo_next b (n := 8 * b.length) (i := i) (by omega)]; first | (rw [if_pos (by assumption)]; simp only [List.append_assoc]; done) | (rw [if_neg (by simp [*])]; rfl)), by (dsimp only; omega), Env.le_mk ⟨rfl, rfl, rfl, by first | rfl | (refine congrArg (fun x => some (_, D.ints .i64 x)) ?_; rfl) | (refine congrArg (fun n => PV.one (.d (.int .i64 n))) ?_; first | omega | (simp; done)), rfl, trivial⟩ ⟨rfl, trivial⟩ trivial⟩
  ·
   replace h1 := of_decide_eq_false h1
   refine T.exit ?_
   refine T.seq ?_
   refine T.region ?_
   refine TL.cons rfl (Step.move (p := (.one (.row 5 []))) rfl rfl (lt_ok rfl) rfl) ?_
   refine TL.cons rfl (Step.assign (p := (.one (.row 5 []))) rfl rfl (lt_ok rfl) rfl) ?_
   refine TL.nil ?_
   refine T.ret ?_
   exact ⟨[(false, [.row 5 []])], (.cons rfl .nil), rfl, [5], (RetC.own' rfl (by (congr 1; rw [← hx2, bitsGo_end b (by omega), List.append_nil])) rfl .nil)⟩
theorem ok_impl_BitsOk (b : List Int) (n : Int) (h0_ : U8s b) (h1_ : b.length ≤ 1099511627776) : RO Try.prog 174 [.one (.ints .u8 b), .one (.int .i64 n)] [(false, [.rd (.bool (bitsOk b n))])] := by
 refine RO.intro Try.func174 rfl 28 rfl (le_ok rfl) fun w Z => ?_
 refine T.bnd 0 0 rfl rfl fun hb_0_0 => ?_
 simp only [D.size, List.length_map] at hb_0_0
 refine T.seq ?_
 refine T.region ?_
 refine TL.cons rfl (Step.assign (p := (.one (.d (.bool false)))) rfl rfl (lt_ok rfl) rfl) ?_
 refine TL.nil ?_
 refine T.seq ?_
 refine T.seq ?_
 refine T.region ?_
 refine TL.cons rfl (Step.move (p := (.one (.d (.int .i64 n)))) rfl rfl (lt_ok rfl) rfl) ?_
 refine TL.cons rfl (Step.call (f := 117) (xs := [.tmp 7, .const (.int .i64 1), .const (.int .i64 10)]) (ps := [(.one (.d (.int .i64 n))), (.one (.d (.int .i64 1))), (.one (.d (.int .i64 10)))]) false (g := .func 117) rfl rfl (lt_ok rfl) rfl (by kernel_rfl) rfl (.cons (.one (.d _)) (.cons (.one (.d _)) (.cons (.one (.d _)) .nil))) (ok_impl_within n 1 10) (.inr rfl) rfl (by simp) rfl) ?_
 refine TL.cons rfl (Step.not (b := (decide (1 ≤ n ∧ n ≤ 10))) rfl rfl (lt_ok rfl) rfl) ?_
 refine TL.cons rfl (Step.move (p := (.one (.d (.bool (!(decide (1 ≤ n ∧ n ≤ 10))))))) rfl rfl (lt_ok rfl) rfl) ?_
 rcases Bool.eq_false_or_eq_true (!(decide (1 ≤ n ∧ n ≤ 10))) with hb1 | hb1
 ·
  refine TL.known 10 hb1 rfl ?_
  have hb1' := hb1
  replace hb1' : (decide (1 ≤ n ∧ n ≤ 10)) = false := by simpa only [Bool.not_eq_true', Bool.not_eq_false'] using hb1'
  replace hb1' := of_decide_eq_false hb1'
  refine TL.goff 10 rfl rfl (lt_ok rfl) rfl rfl rfl (lt_ok rfl) ?_
  refine TL.goff 10 rfl rfl (lt_ok rfl) rfl rfl rfl (lt_ok rfl) ?_
  refine TL.goff 10 rfl rfl (lt_ok rfl) rfl rfl rfl (lt_ok rfl) ?_
  refine TL.goff 10 rfl rfl (lt_ok rfl) rfl rfl rfl (lt_ok rfl) ?_
  refine TL.goff 10 rfl rfl (lt_ok rfl) rfl rfl rfl (lt_ok rfl) ?_
  refine TL.cons rfl (Step.pick (b := true) (p := (.one (.d (.bool true)))) rfl rfl (lt_ok rfl) rfl rfl) ?_
  refine TL.nil ?_
  refine T.cond (b := true) rfl (fun h2_ => ?_) (fun h2_ => absurd h2_ (by simp))
  refine T.seq ?_
  refine T.region ?_
  refine TL.cons rfl (Step.assign (p := (.one (.d (.bool false)))) rfl rfl (lt_ok rfl) rfl) ?_
  refine TL.nil ?_
  refine T.ret ?_
  exact ⟨[(false, [.d (.bool false)])], (.cons rfl .nil), rfl, [], (RetC.rd' (by first | (congr 1; symm; simp only [bitsOk, *, Bool.and_true, Bool.true_and, Bool.and_false, Bool.false_and, decide_true, decide_false, and_true, true_and, and_self, and_false, false_and, Bool.and_self, not_true, not_false, Bool.not_true, Bool.not_false, ge_iff_le, gt_iff_lt, if_true, if_false, Bool.false_eq_true, ite_true, ite_false, reduceIte]; done) | (congr 1; symm; unfold bitsOk; rw [decide_eq_false (p := (1 ≤ n ∧ n ≤ 10)) (by omega)]; rfl) | (congr 1; symm; unfold bitsOk; rw [decide_eq_false (p := ((b.length : Int) = bitsSize n)) (by omega)]; simp; done) | (congr 1; symm; unfold bitsOk; rw [all_no (i := i) (by omega) (by omega)]; simp; done) | (congr 1; symm; unfold bitsOk; rw [List.take_of_length_le (by omega)] at hx2; rw [hx2, decide_eq_true (p := (1 ≤ n ∧ n ≤ 10)) (by omega), decide_eq_true (p := ((b.length : Int) = bitsSize n)) (by omega)]; rfl)) .nil)⟩
 ·
  refine TL.known 10 hb1 rfl ?_
  have hb1' := hb1
  replace hb1' : (decide (1 ≤ n ∧ n ≤ 10)) = true := by simpa only [Bool.not_eq_true', Bool.not_eq_false'] using hb1'
  replace hb1' := of_decide_eq_true hb1'
  refine TL.gyes 10 rfl rfl (lt_ok rfl) rfl (Step.move (p := (.one (.d (.ints .u8 b)))) rfl rfl (lt_ok rfl) rfl) ?_
  refine TL.gyes 10 rfl rfl (lt_ok rfl) rfl (Step.len (e := 5) (z := 1) (d := (.ints .u8 b)) rfl rfl (lt_ok rfl) (by kernel_rfl) rfl rfl) ?_
  refine TL.gyes 10 rfl rfl (lt_ok rfl) rfl (Step.move (p := (.one (.d (.int .i64 n)))) rfl rfl (lt_ok rfl) rfl) ?_
  refine TL.gyes 10 rfl rfl (lt_ok rfl) rfl (Step.call (f := 182) (xs := [.tmp 13]) (ps := [(.one (.d (.int .i64 n)))]) false (g := .func 182) rfl rfl (lt_ok rfl) rfl (by kernel_rfl) rfl (.cons (.one (.d _)) .nil) (ok_impl_BitsSize n (by first | omega | assumption | (simp only [List.length_append] at *; omega))) (.inr rfl) rfl (by simp) rfl) ?_
  refine TL.gyes 10 rfl rfl (lt_ok rfl) rfl (Step.bin rfl rfl (lt_ok rfl) rfl rfl (Bin.neq (k := .i64) (a := (b.length : Int)) (b := (bitsSize n)))) ?_
  refine TL.cons rfl (Step.pick (b := false) (p := (.one (.d (.bool (decide ((b.length : Int) ≠ (bitsSize n))))))) rfl rfl (lt_ok rfl) rfl rfl) ?_
  refine TL.nil ?_
  refine T.cond (b := decide ((b.length : Int) ≠ (bitsSize n))) rfl (fun h3 => ?_) (fun h3 => ?_)
  ·
   replace h3 := of_decide_eq_true h3
   refine T.seq ?_
   refine T.region ?_
   refine TL.cons rfl (Step.assign (p := (.one (.d (.bool false)))) rfl rfl (lt_ok rfl) rfl) ?_
   refine TL.nil ?_
   refine T.ret ?_
   exact ⟨[(false, [.d (.bool false)])], (.cons rfl .nil), rfl, [], (RetC.rd' (by first | (congr 1; symm; simp only [bitsOk, *, Bool.and_true, Bool.true_and, Bool.and_false, Bool.false_and, decide_true, decide_false, and_true, true_and, and_self, and_false, false_and, Bool.and_self, not_true, not_false, Bool.not_true, Bool.not_false, ge_iff_le, gt_iff_lt, if_true, if_false, Bool.false_eq_true, ite_true, ite_false, reduceIte]; done) | (congr 1; symm; unfold bitsOk; rw [decide_eq_false (p := (1 ≤ n ∧ n ≤ 10)) (by omega)]; rfl) | (congr 1; symm; unfold bitsOk; rw [decide_eq_false (p := ((b.length : Int) = bitsSize n)) (by omega)]; simp; done) | (congr 1; symm; unfold bitsOk; rw [all_no (i := i) (by omega) (by omega)]; simp; done) | (congr 1; symm; unfold bitsOk; rw [List.take_of_length_le (by omega)] at hx2; rw [hx2, decide_eq_true (p := (1 ≤ n ∧ n ≤ 10)) (by omega), decide_eq_true (p := ((b.length : Int) = bitsSize n)) (by omega)]; rfl)) .nil)⟩
  ·
   replace h3 := of_decide_eq_false h3
   refine T.skip ?_
   refine T.seq ?_
   refine T.seq ?_
   refine T.region ?_
   refine TL.cons rfl (Step.move (p := (.one (.d (.ints .u8 b)))) rfl rfl (lt_ok rfl) rfl) ?_
   have nn4 := bitList_len b
   refine TL.cons rfl (Step.call (f := 194) (xs := [.tmp 17]) (ps := [(.one (.d (.ints .u8 b)))]) false (g := .func 194) rfl rfl (lt_ok rfl) rfl (by kernel_rfl) rfl (.cons (.one (.d _)) .nil) (ok_impl_BitsList b (by assumption) (by first | omega | assumption | (simp only [List.length_append] at *; omega))) (.inr rfl) rfl (by simp) rfl) ?_
   refine TL.cons rfl (Step.len (e := 3) (z := 1) (d := (.ints .i64 (bitList b))) rfl rfl (lt_ok rfl) (by kernel_rfl) rfl rfl) ?_
   refine TL.cons rfl (Step.move (p := (.one (.d (.int .i64 0)))) rfl rfl (lt_ok rfl) rfl) ?_
   refine TL.nil ?_
   refine T.block ?_
   refine T.loop (ι := Nat) (fun xx_ => { tm := [(1, (.one (.d (.int .i64 n)))), (18, (.one (.row 1018 []))), (19, (.one (.d (.int .i64 ((bitList b).length : Int))))), (20, (.one (.d (.int .i64 (xx_ : Int)))))], rows := [(1018, (3, (.ints .i64 (bitList b))))], boxes := [] }) (fun xx_ => xx_ ≤ (bitList b).length ∧ ((bitList b).take xx_).all (fun x => decide (x < n)) = true) (fun xx_ => (bitList b).length - xx_) 0 ?_ ?_ ?_
   · exact Env.le_mk ⟨rfl, rfl, rfl, by first | rfl | (simp; done) | (congr 3; omega), trivial⟩ ⟨rfl, trivial⟩ trivial
   · (refine ⟨Nat.zero_le _, by rw [List.take_zero]; rfl⟩)
   ·
    intro i hx
    try dsimp only at hx ⊢
    obtain ⟨hx1, hx2⟩ := hx
    refine T.seq ?_
    refine T.region ?_
    refine TL.cons rfl (Step.bin rfl rfl (lt_ok rfl) rfl rfl (Bin.lss (k := .i64) (a := (i : Int)) (b := ((bitList b).length : Int)))) ?_
    refine TL.nil ?_
    refine T.seq ?_
    refine T.cond (b := decide ((i : Int) < ((bitList b).length : Int))) rfl (fun h5 => ?_) (fun h5 => ?_)
    ·
     replace h5 := of_decide_eq_true h5
     refine T.skip ?_
     refine T.seq ?_
     refine T.block ?_
     refine T.seq ?_
     refine T.region ?_
     refine TL.cons rfl (Step.index_row (e := 3) (z := 1) (i := (i : Int)) rfl rfl (lt_ok rfl) (by kernel_rfl) rfl rfl rfl rfl (lt_ok rfl) rfl (by first | omega | (simp; omega)) (by simp only [D.at_, D.cell, D.size]; first | omega | (simp; omega))) ?_
     refine TL.cons rfl (Step.load_row (c := .d (.int .i64 ((bitList b).getD i 0))) rfl rfl (lt_ok rfl) (by kernel_rfl) rfl rfl rfl) ?_
     refine TL.cons rfl (Step.assign (p := (.one (.d (.int .i64 ((bitList b).getD i 0))))) rfl rfl (lt_ok rfl) rfl) ?_
     refine TL.nil ?_
     refine T.seq ?_
     refine T.region ?_
     refine TL.cons rfl (Step.move (p := (.one (.d (.int .i64 ((bitList b).getD i 0))))) rfl rfl (lt_ok rfl) rfl) ?_
     refine TL.cons rfl (Step.move (p := (.one (.d (.int .i64 n)))) rfl rfl (lt_ok rfl) rfl) ?_
     refine TL.cons rfl (Step.bin rfl rfl (lt_ok rfl) rfl rfl (Bin.geq (k := .i64) (a := ((bitList b).getD i 0)) (b := n))) ?_
     refine TL.nil ?_
     refine T.cond (b := decide (n ≤ ((bitList b).getD i 0))) rfl (fun h6 => ?_) (fun h6 => ?_)
     ·
      replace h6 := of_decide_eq_true h6
      refine T.seq ?_
      refine T.region ?_
      refine TL.cons rfl (Step.assign (p := (.one (.d (.bool false)))) rfl rfl (lt_ok rfl) rfl) ?_
      refine TL.nil ?_
      refine T.ret ?_
      exact ⟨[(false, [.d (.bool false)])], (.cons rfl .nil), rfl, [], (RetC.rd' (by first | (congr 1; symm; simp only [bitsOk, *, Bool.and_true, Bool.true_and, Bool.and_false, Bool.false_and, decide_true, decide_false, and_true, true_and, and_self, and_false, false_and, Bool.and_self, not_true, not_false, Bool.not_true, Bool.not_false, ge_iff_le, gt_iff_lt, if_true, if_false, Bool.false_eq_true, ite_true, ite_false, reduceIte]; done) | (congr 1; symm; unfold bitsOk; rw [decide_eq_false (p := (1 ≤ n ∧ n ≤ 10)) (by omega)]; rfl) | (congr 1; symm; unfold bitsOk; rw [decide_eq_false (p := ((b.length : Int) = bitsSize n)) (by omega)]; simp; done) | (congr 1; symm; unfold bitsOk; rw [all_no (i := i) (by omega) (by omega)]; simp; done) | (congr 1; symm; unfold bitsOk; rw [List.take_of_length_le (by omega)] at hx2; rw [hx2, decide_eq_true (p := (1 ≤ n ∧ n ≤ 10)) (by omega), decide_eq_true (p := ((b.length : Int) = bitsSize n)) (by omega)]; rfl)) .nil)⟩
     ·
      replace h6 := of_decide_eq_false h6
      refine T.skip ?_
      refine T.region ?_
      refine TL.cons rfl (Step.bin (r := .int .i64 ((i : Int) + 1)) rfl rfl (lt_ok rfl) rfl rfl (Bin.add (a := (i : Int)) (b := 1) (by first | exact wrap_ok (by first | omega | (simp; omega)) (by first | omega | (simp; omega)) | rfl))) ?_
      refine TL.cons rfl (Step.move (p := (.one (.d (.int .i64 ((i : Int) + 1))))) rfl rfl (lt_ok rfl) rfl) ?_
      refine TL.nil ?_
      exact ⟨i + 1, by (refine ⟨by omega, all_step (by omega) hx2 (by omega)⟩), by first | omega | (dsimp only; omega), Env.le_mk ⟨rfl, rfl, rfl, by first | rfl | (simp; done) | (congr 3; omega), trivial⟩ ⟨rfl, trivial⟩ trivial⟩
    ·
     replace h5 := of_decide_eq_false h5
     refine T.exit ?_
     refine T.seq ?_
     refine T.region ?_
     refine TL.cons rfl (Step.assign (p := (.one (.d (.bool true)))) rfl rfl (lt_ok rfl) rfl) ?_
     refine TL.nil ?_
     refine T.ret ?_
     exact ⟨[(false, [.d (.bool true)])], (.cons rfl .nil), rfl, [], (RetC.rd' (by first | (congr 1; symm; simp only [bitsOk, *, Bool.and_true, Bool.true_and, Bool.and_false, Bool.false_and, decide_true, decide_false, and_true, true_and, and_self, and_false, false_and, Bool.and_self, not_true, not_false, Bool.not_true, Bool.not_false, ge_iff_le, gt_iff_lt, if_true, if_false, Bool.false_eq_true, ite_true, ite_false, reduceIte]; done) | (congr 1; symm; unfold bitsOk; rw [decide_eq_false (p := (1 ≤ n ∧ n ≤ 10)) (by omega)]; rfl) | (congr 1; symm; unfold bitsOk; rw [decide_eq_false (p := ((b.length : Int) = bitsSize n)) (by omega)]; simp; done) | (congr 1; symm; unfold bitsOk; rw [all_no (i := i) (by omega) (by omega)]; simp; done) | (congr 1; symm; unfold bitsOk; rw [List.take_of_length_le (by omega)] at hx2; rw [hx2, decide_eq_true (p := (1 ≤ n ∧ n ≤ 10)) (by omega), decide_eq_true (p := ((b.length : Int) = bitsSize n)) (by omega)]; rfl)) .nil)⟩
end Go.Proofs.Ytlcmflenbddliaa.Rf
