/- The functions that FnExactOfVote calls, each held to what it answers. Printed by a program of this session; Lean checks it. -/
import Derived.Test.YthaagegnobegjaaProg
import Derived.Test.YthaagegnobegjaaRf21
import Derived.Test.YthaagegnobegjaaRFnExactOfVotex0
namespace Go.Proofs.Ythaagegnobegjaa.Rf
open Go.RowKit
set_option linter.unusedVariables false
set_option linter.unnecessarySimpa false
set_option linter.unusedSimpArgs false
set_option maxRecDepth 100000
set_option maxHeartbeats 4000000
theorem ok_laws_markBlock (a : SBlock) (k : Int) (h0_ : 0 ≤ k) (h1_ : k + a.cm ≤ 4611686018427387904) : MK Try.prog 102 [.agg [.rd (.int .i64 a.f0.f0), .rd (.int .i64 a.f0.f1), .rd (.int .i64 a.f0.f2), .mk (.ints .u8 a.f0.f3) (.ints .u8 (mkB a.f0.f3 k)), .mk (.ints .u8 a.f0.f4) (.ints .u8 (mkB a.f0.f4 (k + (a.f0.f3.length : Int)))), .rd (.int .i64 a.f0.f5.f0), .rd (.int .i64 a.f0.f5.f1), .mk (.ints .u8 a.f0.f5.f2) (.ints .u8 (mkB a.f0.f5.f2 ((k + (a.f0.f3.length : Int)) + (a.f0.f4.length : Int)))), .mk (.ints .u8 a.f0.f5.f3) (.ints .u8 (mkB a.f0.f5.f3 (((k + (a.f0.f3.length : Int)) + (a.f0.f4.length : Int)) + (a.f0.f5.f2.length : Int)))), .mk (.bss a.f0.f5.f4) (.bss (mkBs a.f0.f5.f4 ((((k + (a.f0.f3.length : Int)) + (a.f0.f4.length : Int)) + (a.f0.f5.f2.length : Int)) + (a.f0.f5.f3.length : Int)))), .mk (.bss a.f1) (.bss (mkBs a.f1 (k + a.f0.cm)))], .one (.rd (.int .i64 k))] [(false, [.rd (.int .i64 (k + a.cm))])] := by
 refine MK.intro Try.func102 rfl 14 rfl (le_ok rfl) (le_ok rfl) rfl fun w Z IX pin Ts hp => ?_
 have n0 := SHead.cm_nn a.f0
 have n1 := cntBs_nonneg a.f1
 simp only [SBlock.cm] at h1_
 refine T.seq ?_
 refine T.region ?_
 refine TL.cons rfl (Step.box (p := (.agg [.d (.int .i64 a.f0.f0), .d (.int .i64 a.f0.f1), .d (.int .i64 a.f0.f2), .row 903 [], .row 904 [], .d (.int .i64 a.f0.f5.f0), .d (.int .i64 a.f0.f5.f1), .row 907 [], .row 908 [], .row 909 [], .row 910 []])) (ps := [.d (.int .i64 a.f0.f0), .d (.int .i64 a.f0.f1), .d (.int .i64 a.f0.f2), .row 903 [], .row 904 [], .d (.int .i64 a.f0.f5.f0), .d (.int .i64 a.f0.f5.f1), .row 907 [], .row 908 [], .row 909 [], .row 910 []]) rfl rfl (lt_ok rfl) rfl rfl rfl rfl rfl) ?_
 refine TL.cons rfl (Step.assign (p := (.one (.d (.int .i64 0)))) rfl rfl (lt_ok rfl) rfl) ?_
 refine TL.nil ?_
 refine T.seq ?_
 refine T.region ?_
 refine TL.cons rfl (Step.fieldAddr (q := 0) (off := 0) (n := 10) (one := false) rfl rfl (lt_ok rfl) (by kernel_rfl) (Nat.succ_ne_zero _) rfl) ?_
 refine TL.cons rfl (Step.load_box_agg (n := 10) (qs := [.d (.int .i64 a.f0.f0), .d (.int .i64 a.f0.f1), .d (.int .i64 a.f0.f2), .row 903 [], .row 904 [], .d (.int .i64 a.f0.f5.f0), .d (.int .i64 a.f0.f5.f1), .row 907 [], .row 908 [], .row 909 []]) rfl rfl (lt_ok rfl) (by kernel_rfl) rfl rfl rfl rfl) ?_
 refine TL.cons rfl (Step.move (p := (.one (.d (.int .i64 k)))) rfl rfl (lt_ok rfl) rfl) ?_
 have nn1 := SHead.cm_nn a.f0
 refine TL.cons rfl (Step.callM (f := 66) (xs := [.tmp 6, .tmp 7]) (ps := [(.agg [.d (.int .i64 a.f0.f0), .d (.int .i64 a.f0.f1), .d (.int .i64 a.f0.f2), .row 903 [], .row 904 [], .d (.int .i64 a.f0.f5.f0), .d (.int .i64 a.f0.f5.f1), .row 907 [], .row 908 [], .row 909 []]), (.one (.d (.int .i64 k)))]) (args := [.agg [.rd (.int .i64 a.f0.f0), .rd (.int .i64 a.f0.f1), .rd (.int .i64 a.f0.f2), .mk (.ints .u8 a.f0.f3) (.ints .u8 (mkB a.f0.f3 k)), .mk (.ints .u8 a.f0.f4) (.ints .u8 (mkB a.f0.f4 (k + (a.f0.f3.length : Int)))), .rd (.int .i64 a.f0.f5.f0), .rd (.int .i64 a.f0.f5.f1), .mk (.ints .u8 a.f0.f5.f2) (.ints .u8 (mkB a.f0.f5.f2 ((k + (a.f0.f3.length : Int)) + (a.f0.f4.length : Int)))), .mk (.ints .u8 a.f0.f5.f3) (.ints .u8 (mkB a.f0.f5.f3 (((k + (a.f0.f3.length : Int)) + (a.f0.f4.length : Int)) + (a.f0.f5.f2.length : Int)))), .mk (.bss a.f0.f5.f4) (.bss (mkBs a.f0.f5.f4 ((((k + (a.f0.f3.length : Int)) + (a.f0.f4.length : Int)) + (a.f0.f5.f2.length : Int)) + (a.f0.f5.f3.length : Int))))], .one (.rd (.int .i64 k))]) (js := [(903, (.ints .u8 (mkB a.f0.f3 k))), (904, (.ints .u8 (mkB a.f0.f4 (k + (a.f0.f3.length : Int))))), (907, (.ints .u8 (mkB a.f0.f5.f2 ((k + (a.f0.f3.length : Int)) + (a.f0.f4.length : Int))))), (908, (.ints .u8 (mkB a.f0.f5.f3 (((k + (a.f0.f3.length : Int)) + (a.f0.f4.length : Int)) + (a.f0.f5.f2.length : Int))))), (909, (.bss (mkBs a.f0.f5.f4 ((((k + (a.f0.f3.length : Int)) + (a.f0.f4.length : Int)) + (a.f0.f5.f2.length : Int)) + (a.f0.f5.f3.length : Int)))))]) (x := (.int .i64 (k + a.f0.cm))) (g := .func 66) rfl rfl (lt_ok rfl) rfl (by kernel_rfl) rfl rfl (.d (.d (.d (.row (T := (Ts 3)) (d := (.ints .u8 a.f0.f3)) (e' := (.ints .u8 (mkB a.f0.f3 k))) (d' := (.ints .u8 (mkB a.f0.f3 k))) rfl rfl rfl rfl rfl (by simp [D.size, mkL_length]) rfl rfl (.row (T := (Ts 4)) (d := (.ints .u8 a.f0.f4)) (e' := (.ints .u8 (mkB a.f0.f4 (k + (a.f0.f3.length : Int))))) (d' := (.ints .u8 (mkB a.f0.f4 (k + (a.f0.f3.length : Int))))) rfl rfl rfl rfl rfl (by simp [D.size, mkL_length]) rfl rfl (.d (.d (.row (T := (Ts 7)) (d := (.ints .u8 a.f0.f5.f2)) (e' := (.ints .u8 (mkB a.f0.f5.f2 ((k + (a.f0.f3.length : Int)) + (a.f0.f4.length : Int))))) (d' := (.ints .u8 (mkB a.f0.f5.f2 ((k + (a.f0.f3.length : Int)) + (a.f0.f4.length : Int))))) rfl rfl rfl rfl rfl (by simp [D.size, mkL_length]) rfl rfl (.row (T := (Ts 8)) (d := (.ints .u8 a.f0.f5.f3)) (e' := (.ints .u8 (mkB a.f0.f5.f3 (((k + (a.f0.f3.length : Int)) + (a.f0.f4.length : Int)) + (a.f0.f5.f2.length : Int))))) (d' := (.ints .u8 (mkB a.f0.f5.f3 (((k + (a.f0.f3.length : Int)) + (a.f0.f4.length : Int)) + (a.f0.f5.f2.length : Int))))) rfl rfl rfl rfl rfl (by simp [D.size, mkL_length]) rfl rfl (.row (T := (Ts 9)) (d := (.bss a.f0.f5.f4)) (e' := (.bss (mkBs a.f0.f5.f4 ((((k + (a.f0.f3.length : Int)) + (a.f0.f4.length : Int)) + (a.f0.f5.f2.length : Int)) + (a.f0.f5.f3.length : Int))))) (d' := (.bss (mkBs a.f0.f5.f4 ((((k + (a.f0.f3.length : Int)) + (a.f0.f4.length : Int)) + (a.f0.f5.f2.length : Int)) + (a.f0.f5.f3.length : Int))))) rfl rfl rfl rfl rfl (by simp [D.size, mkL_length]) rfl rfl (.d .nil))))))))))) (ok_laws_markHead a.f0 k (by omega) (by first | omega | (have := SHead.cm_le (x := a.f0) (by assumption); omega))) rfl) ?_
 refine TL.cons rfl (Step.assign (p := (.one (.d (.int .i64 (k + a.f0.cm))))) rfl rfl (lt_ok rfl) rfl) ?_
 refine TL.nil ?_
 refine T.seq ?_
 refine T.region ?_
 refine TL.cons rfl (Step.fieldAddr (q := 0) (off := 10) (n := 1) (one := true) rfl rfl (lt_ok rfl) (by kernel_rfl) (Nat.succ_ne_zero _) rfl) ?_
 refine TL.cons rfl (Step.load_box (c := .row 910 []) rfl rfl (lt_ok rfl) (by kernel_rfl) rfl rfl rfl) ?_
 refine TL.cons rfl (Step.move (p := (.one (.d (.int .i64 (k + a.f0.cm))))) rfl rfl (lt_ok rfl) rfl) ?_
 have nn2 := cntBs_nonneg a.f1
 refine TL.cons rfl (Step.callM (f := 85) (xs := [.tmp 10, .tmp 11]) (ps := [(.one (.row 910 [])), (.one (.d (.int .i64 (k + a.f0.cm))))]) (args := [.one (.mk (.bss a.f1) (.bss (mkBs a.f1 (k + a.f0.cm)))), .one (.rd (.int .i64 (k + a.f0.cm)))]) (js := [(910, (.bss (mkBs a.f1 (k + a.f0.cm))))]) (x := (.int .i64 ((k + a.f0.cm) + cntL (fun x : List Int => (x.length : Int)) a.f1))) (g := .func 85) rfl rfl (lt_ok rfl) rfl (by kernel_rfl) rfl rfl (.row (T := (Ts 10)) (d := (.bss a.f1)) (e' := (.bss (mkBs a.f1 (k + a.f0.cm)))) (d' := (.bss (mkBs a.f1 (k + a.f0.cm)))) rfl rfl rfl rfl rfl (by simp [D.size, mkL_length]) rfl rfl (.d .nil)) (ok_laws_markByteSS a.f1 (k + a.f0.cm) (by omega) (by first | omega | (have := cntBs_le (xs := a.f1) (by assumption); omega))) rfl) ?_
 refine TL.cons rfl (Step.assign (p := (.one (.d (.int .i64 ((k + a.f0.cm) + cntL (fun x : List Int => (x.length : Int)) a.f1))))) rfl rfl (lt_ok rfl) rfl) ?_
 refine TL.nil ?_
 refine T.seq ?_
 refine T.region ?_
 refine TL.cons rfl (Step.move (p := (.one (.d (.int .i64 ((k + a.f0.cm) + cntL (fun x : List Int => (x.length : Int)) a.f1))))) rfl rfl (lt_ok rfl) rfl) ?_
 refine TL.cons rfl (Step.assign (p := (.one (.d (.int .i64 ((k + a.f0.cm) + cntL (fun x : List Int => (x.length : Int)) a.f1))))) rfl rfl (lt_ok rfl) rfl) ?_
 refine TL.nil ?_
 refine T.ret ?_
 exact ⟨⟨⟨[(false, [.d (.int .i64 ((k + a.f0.cm) + cntL (fun x : List Int => (x.length : Int)) a.f1))])], (.cons rfl .nil), rfl, [], (RetC.rd' (by first | rfl | (congr 1; simp only [SBlock.cm]; omega)) .nil)⟩, rfl⟩, (.rd (.rd (.rd (.mk' (by rfl) (.mk' (by rfl) (.rd (.rd (.mk' (by rfl) (.mk' (by rfl) (.mk' (by rfl) (.mk' (by rfl) (.rd .nil'))))))))))))⟩
theorem ok_laws_markHeadS (a : List SHead) (k : Int) (h0_ : 0 ≤ k) (h1_ : k + cntL SHead.ce a ≤ 4611686018427387904) : MK Try.prog 157 [.one (.mk (.sl 10 (a.map SHead.cells)) (.sl 10 ((mkL SHead.ce SHead.me a k).map SHead.cells))), .one (.rd (.int .i64 k))] [(false, [.rd (.int .i64 (k + cntL SHead.ce a))])] := by
 refine MK.intro Try.func157 rfl 88 rfl (le_ok rfl) (le_ok rfl) rfl fun w Z IX pin Ts hp => ?_
 refine T.bndRow 900 rfl fun hb_900 => ?_
 simp only [D.size, List.length_map] at hb_900
 refine T.seq ?_
 refine T.region ?_
 refine TL.cons rfl (Step.assign (p := (.one (.d (.int .i64 0)))) rfl rfl (lt_ok rfl) rfl) ?_
 refine TL.nil ?_
 refine T.seq ?_
 refine T.seq ?_
 refine T.region ?_
 refine TL.cons rfl (Step.assign (p := (.one (.d (.int .i64 0)))) rfl rfl (lt_ok rfl) rfl) ?_
 refine TL.nil ?_
 refine T.block ?_
 refine T.loop (ι := Nat) (fun x => { tm := [(0, (.one (.row 900 []))), (4, (.one (.d (.int .i64 0)))), (5, (.one (.d (.int .i64 (x : Int))))), (1, (.one (.d (.int .i64 (k + cntL SHead.ce (a.take x))))))], rows := [(900, ((Ts 0), (.sl 10 (((upTo SHead.ce SHead.me a k x).set x (a.getD x default)).map SHead.cells))))], boxes := [] }) (fun x => x ≤ a.length) (fun x => a.length - x) 0 ?_ ?_ ?_
 · exact Env.le_mk ⟨rfl, rfl, by first | exact congrArg (fun x => some (Ts 0, D.sl 10 (List.map SHead.cells x))) (upTo_next (df := default) (by omega) rfl) | exact congrArg (fun x => some (Ts 0, D.sl 10 (List.map SHead.cells x))) (upTo_first a k default) | rfl | (refine congrArg (fun n => PV.one (.d (.int .i64 n))) ?_; first | omega | (simp; done) | (simp [cntL]; done)), by first | exact congrArg (fun x => some (Ts 0, D.sl 10 (List.map SHead.cells x))) (upTo_next (df := default) (by omega) rfl) | exact congrArg (fun x => some (Ts 0, D.sl 10 (List.map SHead.cells x))) (upTo_first a k default) | rfl | (refine congrArg (fun n => PV.one (.d (.int .i64 n))) ?_; first | omega | (simp; done) | (simp [cntL]; done)), trivial⟩ ⟨by first | exact congrArg (fun x => some (Ts 0, D.sl 10 (List.map SHead.cells x))) (upTo_next (df := default) (by omega) rfl) | exact congrArg (fun x => some (Ts 0, D.sl 10 (List.map SHead.cells x))) (upTo_first a k default) | rfl | (refine congrArg (fun n => PV.one (.d (.int .i64 n))) ?_; first | omega | (simp; done) | (simp [cntL]; done)), trivial⟩ trivial
 · exact Nat.zero_le _
 ·
  intro i hx
  try dsimp only at hx ⊢
  refine T.seq ?_
  refine T.seq ?_
  refine T.region ?_
  refine TL.cons rfl (Step.move (p := (.one (.d (.int .i64 (i : Int))))) rfl rfl (lt_ok rfl) rfl) ?_
  refine TL.cons rfl (Step.move (p := (.one (.row 900 []))) rfl rfl (lt_ok rfl) rfl) ?_
  refine TL.cons rfl (Step.len' (e := 66) (z := 10) (d := (.sl 10 (((upTo SHead.ce SHead.me a k i).set i (a.getD i default)).map SHead.cells))) (n := a.length) rfl rfl (lt_ok rfl) (by kernel_rfl) rfl rfl (by simp [D.size, upTo_length])) ?_
  refine TL.cons rfl (Step.bin rfl rfl (lt_ok rfl) rfl rfl (Bin.lss (k := .i64) (a := (i : Int)) (b := (a.length : Int)))) ?_
  refine TL.nil ?_
  refine T.cond (b := decide ((i : Int) < (a.length : Int))) rfl (fun h1 => ?_) (fun h1 => ?_)
  ·
   replace h1 := of_decide_eq_true h1
   have hc1 := cntL_take_le (cnt := SHead.ce) SHead.ce_nn a (i + 1)
   have hc2 := cntL_take_succ (cnt := SHead.ce) (i := i) default (show i < a.length by omega)
   have hc3 := cntL_nonneg (cnt := SHead.ce) SHead.ce_nn (a.take i)
   have hc4 : SHead.ce (a.getD i default) = 1 + 1 + 1 + ((a.getD i default).f3.length : Int) + ((a.getD i default).f4.length : Int) + (1 + 1 + ((a.getD i default).f5.f2.length : Int) + ((a.getD i default).f5.f3.length : Int) + cntL (fun x : List Int => (x.length : Int)) (a.getD i default).f5.f4) := rfl
   have hn0 := cntBs_nonneg (a.getD i default).f5.f4
   refine T.skip ?_
   refine T.seq ?_
   refine T.block ?_
   refine T.seq ?_
   refine T.region ?_
   refine TL.cons rfl (Step.move (p := (.one (.row 900 []))) rfl rfl (lt_ok rfl) rfl) ?_
   refine TL.cons rfl (Step.move (p := (.one (.d (.int .i64 (i : Int))))) rfl rfl (lt_ok rfl) rfl) ?_
   refine TL.cons rfl (Step.move (p := (.one (.d (.int .i64 (k + cntL SHead.ce (a.take i)))))) rfl rfl (lt_ok rfl) rfl) ?_
   refine TL.cons rfl (Step.index_row (d := (.sl 10 (((upTo SHead.ce SHead.me a k i).set i (a.getD i default)).map SHead.cells))) (e := 66) (z := 10) (i := (i : Int)) rfl rfl (lt_ok rfl) (by kernel_rfl) rfl rfl rfl rfl (lt_ok rfl) rfl (by first | omega | (simp; omega)) (by simp only [D.at_, D.cell, D.size, List.length_set, List.length_map, upTo_length]; first | omega | (simp; omega))) ?_
   refine TL.cons rfl (Step.fieldAddr_r (d := (.sl 10 (((upTo SHead.ce SHead.me a k i).set i (a.getD i default)).map SHead.cells))) (j := 0) (off := 0) (n := 1) (one := true) rfl rfl (lt_ok rfl) (by kernel_rfl) (Nat.succ_ne_zero _) rfl rfl (lt_ok rfl)) ?_
   refine TL.cons rfl (Step.store_row (n := 1) (p := (.one (.d (.int .i64 (k + cntL SHead.ce (a.take i)))))) (ps := [.d (.int .i64 (k + cntL SHead.ce (a.take i)))]) (es := [(.int .i64 (k + cntL SHead.ce (a.take i)))]) (ss := []) (d1 := (.sl 10 (((upTo SHead.ce SHead.me a k i).set i (⟨k + cntL SHead.ce (a.take i), (a.getD i default).f1, (a.getD i default).f2, (a.getD i default).f3, (a.getD i default).f4, (a.getD i default).f5⟩ : SHead)).map SHead.cells))) (d' := (.sl 10 (((upTo SHead.ce SHead.me a k i).set i (⟨k + cntL SHead.ce (a.take i), (a.getD i default).f1, (a.getD i default).f2, (a.getD i default).f3, (a.getD i default).f4, (a.getD i default).f5⟩ : SHead)).map SHead.cells))) rfl rfl (by kernel_rfl) rfl rfl rfl rfl rfl rfl (.val rfl .nil) (by simp) (Putd.fld2 SHead.len (by simp only [upTo_length]; first | omega | (simp; omega)) (lt_ok rfl) rfl) rfl) ?_
   refine TL.nil ?_
   refine T.seq ?_
   refine T.region ?_
   refine TL.cons rfl (Step.move (p := (.one (.d (.int .i64 (k + cntL SHead.ce (a.take i)))))) rfl rfl (lt_ok rfl) rfl) ?_
   refine TL.cons rfl (Step.bin (r := .int .i64 ((k + cntL SHead.ce (a.take i)) + 1)) rfl rfl (lt_ok rfl) rfl rfl (Bin.add (a := (k + cntL SHead.ce (a.take i))) (b := 1) (by first | exact wrap_ok (by first | omega | (simp; omega)) (by first | omega | (simp; omega)) | rfl))) ?_
   refine TL.cons rfl (Step.assign (p := (.one (.d (.int .i64 ((k + cntL SHead.ce (a.take i)) + 1))))) rfl rfl (lt_ok rfl) rfl) ?_
   refine TL.nil ?_
   refine T.seq ?_
   refine T.region ?_
   refine TL.cons rfl (Step.move (p := (.one (.row 900 []))) rfl rfl (lt_ok rfl) rfl) ?_
   refine TL.cons rfl (Step.move (p := (.one (.d (.int .i64 (i : Int))))) rfl rfl (lt_ok rfl) rfl) ?_
   refine TL.cons rfl (Step.move (p := (.one (.d (.int .i64 ((k + cntL SHead.ce (a.take i)) + 1))))) rfl rfl (lt_ok rfl) rfl) ?_
   refine TL.cons rfl (Step.index_row (d := (.sl 10 (((upTo SHead.ce SHead.me a k i).set i (⟨k + cntL SHead.ce (a.take i), (a.getD i default).f1, (a.getD i default).f2, (a.getD i default).f3, (a.getD i default).f4, (a.getD i default).f5⟩ : SHead)).map SHead.cells))) (e := 66) (z := 10) (i := (i : Int)) rfl rfl (lt_ok rfl) (by kernel_rfl) rfl rfl rfl rfl (lt_ok rfl) rfl (by first | omega | (simp; omega)) (by simp only [D.at_, D.cell, D.size, List.length_set, List.length_map, upTo_length]; first | omega | (simp; omega))) ?_
   refine TL.cons rfl (Step.fieldAddr_r (d := (.sl 10 (((upTo SHead.ce SHead.me a k i).set i (⟨k + cntL SHead.ce (a.take i), (a.getD i default).f1, (a.getD i default).f2, (a.getD i default).f3, (a.getD i default).f4, (a.getD i default).f5⟩ : SHead)).map SHead.cells))) (j := 0) (off := 1) (n := 1) (one := true) rfl rfl (lt_ok rfl) (by kernel_rfl) (Nat.succ_ne_zero _) rfl rfl (lt_ok rfl)) ?_
   refine TL.cons rfl (Step.store_row (n := 1) (p := (.one (.d (.int .i64 ((k + cntL SHead.ce (a.take i)) + 1))))) (ps := [.d (.int .i64 ((k + cntL SHead.ce (a.take i)) + 1))]) (es := [(.int .i64 ((k + cntL SHead.ce (a.take i)) + 1))]) (ss := []) (d1 := (.sl 10 (((upTo SHead.ce SHead.me a k i).set i (⟨k + cntL SHead.ce (a.take i), (k + cntL SHead.ce (a.take i)) + 1, (a.getD i default).f2, (a.getD i default).f3, (a.getD i default).f4, (a.getD i default).f5⟩ : SHead)).map SHead.cells))) (d' := (.sl 10 (((upTo SHead.ce SHead.me a k i).set i (⟨k + cntL SHead.ce (a.take i), (k + cntL SHead.ce (a.take i)) + 1, (a.getD i default).f2, (a.getD i default).f3, (a.getD i default).f4, (a.getD i default).f5⟩ : SHead)).map SHead.cells))) rfl rfl (by kernel_rfl) rfl rfl rfl rfl rfl rfl (.val rfl .nil) (by simp) (Putd.fld2 SHead.len (by simp only [upTo_length]; first | omega | (simp; omega)) (lt_ok rfl) rfl) rfl) ?_
   refine TL.nil ?_
   refine T.seq ?_
   refine T.region ?_
   refine TL.cons rfl (Step.move (p := (.one (.d (.int .i64 ((k + cntL SHead.ce (a.take i)) + 1))))) rfl rfl (lt_ok rfl) rfl) ?_
   refine TL.cons rfl (Step.bin (r := .int .i64 (((k + cntL SHead.ce (a.take i)) + 1) + 1)) rfl rfl (lt_ok rfl) rfl rfl (Bin.add (a := ((k + cntL SHead.ce (a.take i)) + 1)) (b := 1) (by first | exact wrap_ok (by first | omega | (simp; omega)) (by first | omega | (simp; omega)) | rfl))) ?_
   refine TL.cons rfl (Step.assign (p := (.one (.d (.int .i64 (((k + cntL SHead.ce (a.take i)) + 1) + 1))))) rfl rfl (lt_ok rfl) rfl) ?_
   refine TL.nil ?_
   refine T.seq ?_
   refine T.region ?_
   refine TL.cons rfl (Step.move (p := (.one (.row 900 []))) rfl rfl (lt_ok rfl) rfl) ?_
   refine TL.cons rfl (Step.move (p := (.one (.d (.int .i64 (i : Int))))) rfl rfl (lt_ok rfl) rfl) ?_
   refine TL.cons rfl (Step.move (p := (.one (.d (.int .i64 (((k + cntL SHead.ce (a.take i)) + 1) + 1))))) rfl rfl (lt_ok rfl) rfl) ?_
   refine TL.cons rfl (Step.index_row (d := (.sl 10 (((upTo SHead.ce SHead.me a k i).set i (⟨k + cntL SHead.ce (a.take i), (k + cntL SHead.ce (a.take i)) + 1, (a.getD i default).f2, (a.getD i default).f3, (a.getD i default).f4, (a.getD i default).f5⟩ : SHead)).map SHead.cells))) (e := 66) (z := 10) (i := (i : Int)) rfl rfl (lt_ok rfl) (by kernel_rfl) rfl rfl rfl rfl (lt_ok rfl) rfl (by first | omega | (simp; omega)) (by simp only [D.at_, D.cell, D.size, List.length_set, List.length_map, upTo_length]; first | omega | (simp; omega))) ?_
   refine TL.cons rfl (Step.fieldAddr_r (d := (.sl 10 (((upTo SHead.ce SHead.me a k i).set i (⟨k + cntL SHead.ce (a.take i), (k + cntL SHead.ce (a.take i)) + 1, (a.getD i default).f2, (a.getD i default).f3, (a.getD i default).f4, (a.getD i default).f5⟩ : SHead)).map SHead.cells))) (j := 0) (off := 2) (n := 1) (one := true) rfl rfl (lt_ok rfl) (by kernel_rfl) (Nat.succ_ne_zero _) rfl rfl (lt_ok rfl)) ?_
   refine TL.cons rfl (Step.store_row (n := 1) (p := (.one (.d (.int .i64 (((k + cntL SHead.ce (a.take i)) + 1) + 1))))) (ps := [.d (.int .i64 (((k + cntL SHead.ce (a.take i)) + 1) + 1))]) (es := [(.int .i64 (((k + cntL SHead.ce (a.take i)) + 1) + 1))]) (ss := []) (d1 := (.sl 10 (((upTo SHead.ce SHead.me a k i).set i (⟨k + cntL SHead.ce (a.take i), (k + cntL SHead.ce (a.take i)) + 1, ((k + cntL SHead.ce (a.take i)) + 1) + 1, (a.getD i default).f3, (a.getD i default).f4, (a.getD i default).f5⟩ : SHead)).map SHead.cells))) (d' := (.sl 10 (((upTo SHead.ce SHead.me a k i).set i (⟨k + cntL SHead.ce (a.take i), (k + cntL SHead.ce (a.take i)) + 1, ((k + cntL SHead.ce (a.take i)) + 1) + 1, (a.getD i default).f3, (a.getD i default).f4, (a.getD i default).f5⟩ : SHead)).map SHead.cells))) rfl rfl (by kernel_rfl) rfl rfl rfl rfl rfl rfl (.val rfl .nil) (by simp) (Putd.fld2 SHead.len (by simp only [upTo_length]; first | omega | (simp; omega)) (lt_ok rfl) rfl) rfl) ?_
   refine TL.nil ?_
   refine T.seq ?_
   refine T.region ?_
   refine TL.cons rfl (Step.move (p := (.one (.d (.int .i64 (((k + cntL SHead.ce (a.take i)) + 1) + 1))))) rfl rfl (lt_ok rfl) rfl) ?_
   refine TL.cons rfl (Step.bin (r := .int .i64 ((((k + cntL SHead.ce (a.take i)) + 1) + 1) + 1)) rfl rfl (lt_ok rfl) rfl rfl (Bin.add (a := (((k + cntL SHead.ce (a.take i)) + 1) + 1)) (b := 1) (by first | exact wrap_ok (by first | omega | (simp; omega)) (by first | omega | (simp; omega)) | rfl))) ?_
   refine TL.cons rfl (Step.assign (p := (.one (.d (.int .i64 ((((k + cntL SHead.ce (a.take i)) + 1) + 1) + 1))))) rfl rfl (lt_ok rfl) rfl) ?_
   refine TL.nil ?_
   refine T.seq ?_
   refine T.region ?_
   refine TL.cons rfl (Step.move (p := (.one (.row 900 []))) rfl rfl (lt_ok rfl) rfl) ?_
   refine TL.cons rfl (Step.move (p := (.one (.d (.int .i64 (i : Int))))) rfl rfl (lt_ok rfl) rfl) ?_
   refine TL.cons rfl (Step.index_row (d := (.sl 10 (((upTo SHead.ce SHead.me a k i).set i (⟨k + cntL SHead.ce (a.take i), (k + cntL SHead.ce (a.take i)) + 1, ((k + cntL SHead.ce (a.take i)) + 1) + 1, (a.getD i default).f3, (a.getD i default).f4, (a.getD i default).f5⟩ : SHead)).map SHead.cells))) (e := 66) (z := 10) (i := (i : Int)) rfl rfl (lt_ok rfl) (by kernel_rfl) rfl rfl rfl rfl (lt_ok rfl) rfl (by first | omega | (simp; omega)) (by simp only [D.at_, D.cell, D.size, List.length_set, List.length_map, upTo_length]; first | omega | (simp; omega))) ?_
   refine TL.cons rfl (Step.fieldAddr_r (d := (.sl 10 (((upTo SHead.ce SHead.me a k i).set i (⟨k + cntL SHead.ce (a.take i), (k + cntL SHead.ce (a.take i)) + 1, ((k + cntL SHead.ce (a.take i)) + 1) + 1, (a.getD i default).f3, (a.getD i default).f4, (a.getD i default).f5⟩ : SHead)).map SHead.cells))) (j := 0) (off := 3) (n := 1) (one := true) rfl rfl (lt_ok rfl) (by kernel_rfl) (Nat.succ_ne_zero _) rfl rfl (lt_ok rfl)) ?_
   refine TL.cons rfl (Step.load_row (d := (.sl 10 (((upTo SHead.ce SHead.me a k i).set i (⟨k + cntL SHead.ce (a.take i), (k + cntL SHead.ce (a.take i)) + 1, ((k + cntL SHead.ce (a.take i)) + 1) + 1, (a.getD i default).f3, (a.getD i default).f4, (a.getD i default).f5⟩ : SHead)).map SHead.cells))) (c := .row 900 [(i, 3)]) rfl rfl (lt_ok rfl) (by kernel_rfl) rfl rfl (ofRow_sl (cell_set_sl (z := 10) (by simp only [upTo_length]; first | omega | (simp; omega)) rfl) rfl)) ?_
   refine TL.cons rfl (Step.move (p := (.one (.d (.int .i64 ((((k + cntL SHead.ce (a.take i)) + 1) + 1) + 1))))) rfl rfl (lt_ok rfl) rfl) ?_
   refine TL.cons rfl (Step.callM (f := 32) (xs := [.tmp 37, .tmp 38]) (ps := [(.one (.row 900 [(i, 3)])), (.one (.d (.int .i64 ((((k + cntL SHead.ce (a.take i)) + 1) + 1) + 1))))]) (args := [.one (.mk (.ints .u8 (a.getD i default).f3) (.ints .u8 (mkB (a.getD i default).f3 ((((k + cntL SHead.ce (a.take i)) + 1) + 1) + 1)))), .one (.rd (.int .i64 ((((k + cntL SHead.ce (a.take i)) + 1) + 1) + 1)))]) (js := [(900, (.sl 10 (((upTo SHead.ce SHead.me a k i).set i (⟨k + cntL SHead.ce (a.take i), (k + cntL SHead.ce (a.take i)) + 1, ((k + cntL SHead.ce (a.take i)) + 1) + 1, mkB (a.getD i default).f3 ((((k + cntL SHead.ce (a.take i)) + 1) + 1) + 1), (a.getD i default).f4, (a.getD i default).f5⟩ : SHead)).map SHead.cells)))]) (x := (.int .i64 (((((k + cntL SHead.ce (a.take i)) + 1) + 1) + 1) + ((a.getD i default).f3.length : Int)))) (g := .func 32) rfl rfl (lt_ok rfl) rfl (by kernel_rfl) rfl rfl (.row (T := (Ts 0)) (d := (.sl 10 (((upTo SHead.ce SHead.me a k i).set i (⟨k + cntL SHead.ce (a.take i), (k + cntL SHead.ce (a.take i)) + 1, ((k + cntL SHead.ce (a.take i)) + 1) + 1, (a.getD i default).f3, (a.getD i default).f4, (a.getD i default).f5⟩ : SHead)).map SHead.cells))) (e' := (.ints .u8 (mkB (a.getD i default).f3 ((((k + cntL SHead.ce (a.take i)) + 1) + 1) + 1)))) (d' := (.sl 10 (((upTo SHead.ce SHead.me a k i).set i (⟨k + cntL SHead.ce (a.take i), (k + cntL SHead.ce (a.take i)) + 1, ((k + cntL SHead.ce (a.take i)) + 1) + 1, mkB (a.getD i default).f3 ((((k + cntL SHead.ce (a.take i)) + 1) + 1) + 1), (a.getD i default).f4, (a.getD i default).f5⟩ : SHead)).map SHead.cells))) rfl (cell_set_sl (z := 10) (by simp only [upTo_length]; first | omega | (simp; omega)) rfl) rfl (putAt_fld2 (by simp only [upTo_length]; first | omega | (simp; omega)) rfl) rfl (by simp [D.size]) rfl rfl (.d .nil)) (ok_laws_markByteS (a.getD i default).f3 ((((k + cntL SHead.ce (a.take i)) + 1) + 1) + 1) (by omega) (by first | omega | (have := (by assumption); omega))) rfl) ?_
   refine TL.cons rfl (Step.assign (p := (.one (.d (.int .i64 (((((k + cntL SHead.ce (a.take i)) + 1) + 1) + 1) + ((a.getD i default).f3.length : Int)))))) rfl rfl (lt_ok rfl) rfl) ?_
   refine TL.nil ?_
   refine T.seq ?_
   refine T.region ?_
   refine TL.cons rfl (Step.move (p := (.one (.row 900 []))) rfl rfl (lt_ok rfl) rfl) ?_
   refine TL.cons rfl (Step.move (p := (.one (.d (.int .i64 (i : Int))))) rfl rfl (lt_ok rfl) rfl) ?_
   refine TL.cons rfl (Step.index_row (d := (.sl 10 (((upTo SHead.ce SHead.me a k i).set i (⟨k + cntL SHead.ce (a.take i), (k + cntL SHead.ce (a.take i)) + 1, ((k + cntL SHead.ce (a.take i)) + 1) + 1, mkB (a.getD i default).f3 ((((k + cntL SHead.ce (a.take i)) + 1) + 1) + 1), (a.getD i default).f4, (a.getD i default).f5⟩ : SHead)).map SHead.cells))) (e := 66) (z := 10) (i := (i : Int)) rfl rfl (lt_ok rfl) (by kernel_rfl) rfl rfl rfl rfl (lt_ok rfl) rfl (by first | omega | (simp; omega)) (by simp only [D.at_, D.cell, D.size, List.length_set, List.length_map, upTo_length]; first | omega | (simp; omega))) ?_
   refine TL.cons rfl (Step.fieldAddr_r (d := (.sl 10 (((upTo SHead.ce SHead.me a k i).set i (⟨k + cntL SHead.ce (a.take i), (k + cntL SHead.ce (a.take i)) + 1, ((k + cntL SHead.ce (a.take i)) + 1) + 1, mkB (a.getD i default).f3 ((((k + cntL SHead.ce (a.take i)) + 1) + 1) + 1), (a.getD i default).f4, (a.getD i default).f5⟩ : SHead)).map SHead.cells))) (j := 0) (off := 4) (n := 1) (one := true) rfl rfl (lt_ok rfl) (by kernel_rfl) (Nat.succ_ne_zero _) rfl rfl (lt_ok rfl)) ?_
   refine TL.cons rfl (Step.load_row (d := (.sl 10 (((upTo SHead.ce SHead.me a k i).set i (⟨k + cntL SHead.ce (a.take i), (k + cntL SHead.ce (a.take i)) + 1, ((k + cntL SHead.ce (a.take i)) + 1) + 1, mkB (a.getD i default).f3 ((((k + cntL SHead.ce (a.take i)) + 1) + 1) + 1), (a.getD i default).f4, (a.getD i default).f5⟩ : SHead)).map SHead.cells))) (c := .row 900 [(i, 4)]) rfl rfl (lt_ok rfl) (by kernel_rfl) rfl rfl (ofRow_sl (cell_set_sl (z := 10) (by simp only [upTo_length]; first | omega | (simp; omega)) rfl) rfl)) ?_
   refine TL.cons rfl (Step.move (p := (.one (.d (.int .i64 (((((k + cntL SHead.ce (a.take i)) + 1) + 1) + 1) + ((a.getD i default).f3.length : Int)))))) rfl rfl (lt_ok rfl) rfl) ?_
   refine TL.cons rfl (Step.callM (f := 32) (xs := [.tmp 44, .tmp 45]) (ps := [(.one (.row 900 [(i, 4)])), (.one (.d (.int .i64 (((((k + cntL SHead.ce (a.take i)) + 1) + 1) + 1) + ((a.getD i default).f3.length : Int)))))]) (args := [.one (.mk (.ints .u8 (a.getD i default).f4) (.ints .u8 (mkB (a.getD i default).f4 (((((k + cntL SHead.ce (a.take i)) + 1) + 1) + 1) + ((a.getD i default).f3.length : Int))))), .one (.rd (.int .i64 (((((k + cntL SHead.ce (a.take i)) + 1) + 1) + 1) + ((a.getD i default).f3.length : Int))))]) (js := [(900, (.sl 10 (((upTo SHead.ce SHead.me a k i).set i (⟨k + cntL SHead.ce (a.take i), (k + cntL SHead.ce (a.take i)) + 1, ((k + cntL SHead.ce (a.take i)) + 1) + 1, mkB (a.getD i default).f3 ((((k + cntL SHead.ce (a.take i)) + 1) + 1) + 1), mkB (a.getD i default).f4 (((((k + cntL SHead.ce (a.take i)) + 1) + 1) + 1) + ((a.getD i default).f3.length : Int)), (a.getD i default).f5⟩ : SHead)).map SHead.cells)))]) (x := (.int .i64 ((((((k + cntL SHead.ce (a.take i)) + 1) + 1) + 1) + ((a.getD i default).f3.length : Int)) + ((a.getD i default).f4.length : Int)))) (g := .func 32) rfl rfl (lt_ok rfl) rfl (by kernel_rfl) rfl rfl (.row (T := (Ts 0)) (d := (.sl 10 (((upTo SHead.ce SHead.me a k i).set i (⟨k + cntL SHead.ce (a.take i), (k + cntL SHead.ce (a.take i)) + 1, ((k + cntL SHead.ce (a.take i)) + 1) + 1, mkB (a.getD i default).f3 ((((k + cntL SHead.ce (a.take i)) + 1) + 1) + 1), (a.getD i default).f4, (a.getD i default).f5⟩ : SHead)).map SHead.cells))) (e' := (.ints .u8 (mkB (a.getD i default).f4 (((((k + cntL SHead.ce (a.take i)) + 1) + 1) + 1) + ((a.getD i default).f3.length : Int))))) (d' := (.sl 10 (((upTo SHead.ce SHead.me a k i).set i (⟨k + cntL SHead.ce (a.take i), (k + cntL SHead.ce (a.take i)) + 1, ((k + cntL SHead.ce (a.take i)) + 1) + 1, mkB (a.getD i default).f3 ((((k + cntL SHead.ce (a.take i)) + 1) + 1) + 1), mkB (a.getD i default).f4 (((((k + cntL SHead.ce (a.take i)) + 1) + 1) + 1) + ((a.getD i default).f3.length : Int)), (a.getD i default).f5⟩ : SHead)).map SHead.cells))) rfl (cell_set_sl (z := 10) (by simp only [upTo_length]; first | omega | (simp; omega)) rfl) rfl (putAt_fld2 (by simp only [upTo_length]; first | omega | (simp; omega)) rfl) rfl (by simp [D.size]) rfl rfl (.d .nil)) (ok_laws_markByteS (a.getD i default).f4 (((((k + cntL SHead.ce (a.take i)) + 1) + 1) + 1) + ((a.getD i default).f3.length : Int)) (by omega) (by first | omega | (have := (by assumption); omega))) rfl) ?_
   refine TL.cons rfl (Step.assign (p := (.one (.d (.int .i64 ((((((k + cntL SHead.ce (a.take i)) + 1) + 1) + 1) + ((a.getD i default).f3.length : Int)) + ((a.getD i default).f4.length : Int)))))) rfl rfl (lt_ok rfl) rfl) ?_
   refine TL.nil ?_
   refine T.seq ?_
   refine T.region ?_
   refine TL.cons rfl (Step.move (p := (.one (.row 900 []))) rfl rfl (lt_ok rfl) rfl) ?_
   refine TL.cons rfl (Step.move (p := (.one (.d (.int .i64 (i : Int))))) rfl rfl (lt_ok rfl) rfl) ?_
   refine TL.cons rfl (Step.move (p := (.one (.d (.int .i64 ((((((k + cntL SHead.ce (a.take i)) + 1) + 1) + 1) + ((a.getD i default).f3.length : Int)) + ((a.getD i default).f4.length : Int)))))) rfl rfl (lt_ok rfl) rfl) ?_
   refine TL.cons rfl (Step.index_row (d := (.sl 10 (((upTo SHead.ce SHead.me a k i).set i (⟨k + cntL SHead.ce (a.take i), (k + cntL SHead.ce (a.take i)) + 1, ((k + cntL SHead.ce (a.take i)) + 1) + 1, mkB (a.getD i default).f3 ((((k + cntL SHead.ce (a.take i)) + 1) + 1) + 1), mkB (a.getD i default).f4 (((((k + cntL SHead.ce (a.take i)) + 1) + 1) + 1) + ((a.getD i default).f3.length : Int)), (a.getD i default).f5⟩ : SHead)).map SHead.cells))) (e := 66) (z := 10) (i := (i : Int)) rfl rfl (lt_ok rfl) (by kernel_rfl) rfl rfl rfl rfl (lt_ok rfl) rfl (by first | omega | (simp; omega)) (by simp only [D.at_, D.cell, D.size, List.length_set, List.length_map, upTo_length]; first | omega | (simp; omega))) ?_
   refine TL.cons rfl (Step.fieldAddr_r (d := (.sl 10 (((upTo SHead.ce SHead.me a k i).set i (⟨k + cntL SHead.ce (a.take i), (k + cntL SHead.ce (a.take i)) + 1, ((k + cntL SHead.ce (a.take i)) + 1) + 1, mkB (a.getD i default).f3 ((((k + cntL SHead.ce (a.take i)) + 1) + 1) + 1), mkB (a.getD i default).f4 (((((k + cntL SHead.ce (a.take i)) + 1) + 1) + 1) + ((a.getD i default).f3.length : Int)), (a.getD i default).f5⟩ : SHead)).map SHead.cells))) (j := 0) (off := 5) (n := 5) (one := false) rfl rfl (lt_ok rfl) (by kernel_rfl) (Nat.succ_ne_zero _) rfl rfl (lt_ok rfl)) ?_
   refine TL.cons rfl (Step.fieldAddr_r (d := (.sl 10 (((upTo SHead.ce SHead.me a k i).set i (⟨k + cntL SHead.ce (a.take i), (k + cntL SHead.ce (a.take i)) + 1, ((k + cntL SHead.ce (a.take i)) + 1) + 1, mkB (a.getD i default).f3 ((((k + cntL SHead.ce (a.take i)) + 1) + 1) + 1), mkB (a.getD i default).f4 (((((k + cntL SHead.ce (a.take i)) + 1) + 1) + 1) + ((a.getD i default).f3.length : Int)), (a.getD i default).f5⟩ : SHead)).map SHead.cells))) (j := 5) (off := 0) (n := 1) (one := true) rfl rfl (lt_ok rfl) (by kernel_rfl) (Nat.succ_ne_zero _) rfl rfl (lt_ok rfl)) ?_
   refine TL.cons rfl (Step.store_row (n := 1) (p := (.one (.d (.int .i64 ((((((k + cntL SHead.ce (a.take i)) + 1) + 1) + 1) + ((a.getD i default).f3.length : Int)) + ((a.getD i default).f4.length : Int)))))) (ps := [.d (.int .i64 ((((((k + cntL SHead.ce (a.take i)) + 1) + 1) + 1) + ((a.getD i default).f3.length : Int)) + ((a.getD i default).f4.length : Int)))]) (es := [(.int .i64 ((((((k + cntL SHead.ce (a.take i)) + 1) + 1) + 1) + ((a.getD i default).f3.length : Int)) + ((a.getD i default).f4.length : Int)))]) (ss := []) (d1 := (.sl 10 (((upTo SHead.ce SHead.me a k i).set i (⟨k + cntL SHead.ce (a.take i), (k + cntL SHead.ce (a.take i)) + 1, ((k + cntL SHead.ce (a.take i)) + 1) + 1, mkB (a.getD i default).f3 ((((k + cntL SHead.ce (a.take i)) + 1) + 1) + 1), mkB (a.getD i default).f4 (((((k + cntL SHead.ce (a.take i)) + 1) + 1) + 1) + ((a.getD i default).f3.length : Int)), (⟨(((((k + cntL SHead.ce (a.take i)) + 1) + 1) + 1) + ((a.getD i default).f3.length : Int)) + ((a.getD i default).f4.length : Int), (a.getD i default).f5.f1, (a.getD i default).f5.f2, (a.getD i default).f5.f3, (a.getD i default).f5.f4⟩ : SQc)⟩ : SHead)).map SHead.cells))) (d' := (.sl 10 (((upTo SHead.ce SHead.me a k i).set i (⟨k + cntL SHead.ce (a.take i), (k + cntL SHead.ce (a.take i)) + 1, ((k + cntL SHead.ce (a.take i)) + 1) + 1, mkB (a.getD i default).f3 ((((k + cntL SHead.ce (a.take i)) + 1) + 1) + 1), mkB (a.getD i default).f4 (((((k + cntL SHead.ce (a.take i)) + 1) + 1) + 1) + ((a.getD i default).f3.length : Int)), (⟨(((((k + cntL SHead.ce (a.take i)) + 1) + 1) + 1) + ((a.getD i default).f3.length : Int)) + ((a.getD i default).f4.length : Int), (a.getD i default).f5.f1, (a.getD i default).f5.f2, (a.getD i default).f5.f3, (a.getD i default).f5.f4⟩ : SQc)⟩ : SHead)).map SHead.cells))) rfl rfl (by kernel_rfl) rfl rfl rfl rfl rfl rfl (.val rfl .nil) (by simp) (Putd.fld2 SHead.len (by simp only [upTo_length]; first | omega | (simp; omega)) (lt_ok rfl) rfl) rfl) ?_
   refine TL.nil ?_
   refine T.seq ?_
   refine T.region ?_
   refine TL.cons rfl (Step.move (p := (.one (.d (.int .i64 ((((((k + cntL SHead.ce (a.take i)) + 1) + 1) + 1) + ((a.getD i default).f3.length : Int)) + ((a.getD i default).f4.length : Int)))))) rfl rfl (lt_ok rfl) rfl) ?_
   refine TL.cons rfl (Step.bin (r := .int .i64 (((((((k + cntL SHead.ce (a.take i)) + 1) + 1) + 1) + ((a.getD i default).f3.length : Int)) + ((a.getD i default).f4.length : Int)) + 1)) rfl rfl (lt_ok rfl) rfl rfl (Bin.add (a := ((((((k + cntL SHead.ce (a.take i)) + 1) + 1) + 1) + ((a.getD i default).f3.length : Int)) + ((a.getD i default).f4.length : Int))) (b := 1) (by first | exact wrap_ok (by first | omega | (simp; omega)) (by first | omega | (simp; omega)) | rfl))) ?_
   refine TL.cons rfl (Step.assign (p := (.one (.d (.int .i64 (((((((k + cntL SHead.ce (a.take i)) + 1) + 1) + 1) + ((a.getD i default).f3.length : Int)) + ((a.getD i default).f4.length : Int)) + 1))))) rfl rfl (lt_ok rfl) rfl) ?_
   refine TL.nil ?_
   refine T.seq ?_
   refine T.region ?_
   refine TL.cons rfl (Step.move (p := (.one (.row 900 []))) rfl rfl (lt_ok rfl) rfl) ?_
   refine TL.cons rfl (Step.move (p := (.one (.d (.int .i64 (i : Int))))) rfl rfl (lt_ok rfl) rfl) ?_
   refine TL.cons rfl (Step.move (p := (.one (.d (.int .i64 (((((((k + cntL SHead.ce (a.take i)) + 1) + 1) + 1) + ((a.getD i default).f3.length : Int)) + ((a.getD i default).f4.length : Int)) + 1))))) rfl rfl (lt_ok rfl) rfl) ?_
   refine TL.cons rfl (Step.index_row (d := (.sl 10 (((upTo SHead.ce SHead.me a k i).set i (⟨k + cntL SHead.ce (a.take i), (k + cntL SHead.ce (a.take i)) + 1, ((k + cntL SHead.ce (a.take i)) + 1) + 1, mkB (a.getD i default).f3 ((((k + cntL SHead.ce (a.take i)) + 1) + 1) + 1), mkB (a.getD i default).f4 (((((k + cntL SHead.ce (a.take i)) + 1) + 1) + 1) + ((a.getD i default).f3.length : Int)), (⟨(((((k + cntL SHead.ce (a.take i)) + 1) + 1) + 1) + ((a.getD i default).f3.length : Int)) + ((a.getD i default).f4.length : Int), (a.getD i default).f5.f1, (a.getD i default).f5.f2, (a.getD i default).f5.f3, (a.getD i default).f5.f4⟩ : SQc)⟩ : SHead)).map SHead.cells))) (e := 66) (z := 10) (i := (i : Int)) rfl rfl (lt_ok rfl) (by kernel_rfl) rfl rfl rfl rfl (lt_ok rfl) rfl (by first | omega | (simp; omega)) (by simp only [D.at_, D.cell, D.size, List.length_set, List.length_map, upTo_length]; first | omega | (simp; omega))) ?_
   refine TL.cons rfl (Step.fieldAddr_r (d := (.sl 10 (((upTo SHead.ce SHead.me a k i).set i (⟨k + cntL SHead.ce (a.take i), (k + cntL SHead.ce (a.take i)) + 1, ((k + cntL SHead.ce (a.take i)) + 1) + 1, mkB (a.getD i default).f3 ((((k + cntL SHead.ce (a.take i)) + 1) + 1) + 1), mkB (a.getD i default).f4 (((((k + cntL SHead.ce (a.take i)) + 1) + 1) + 1) + ((a.getD i default).f3.length : Int)), (⟨(((((k + cntL SHead.ce (a.take i)) + 1) + 1) + 1) + ((a.getD i default).f3.length : Int)) + ((a.getD i default).f4.length : Int), (a.getD i default).f5.f1, (a.getD i default).f5.f2, (a.getD i default).f5.f3, (a.getD i default).f5.f4⟩ : SQc)⟩ : SHead)).map SHead.cells))) (j := 0) (off := 5) (n := 5) (one := false) rfl rfl (lt_ok rfl) (by kernel_rfl) (Nat.succ_ne_zero _) rfl rfl (lt_ok rfl)) ?_
   refine TL.cons rfl (Step.fieldAddr_r (d := (.sl 10 (((upTo SHead.ce SHead.me a k i).set i (⟨k + cntL SHead.ce (a.take i), (k + cntL SHead.ce (a.take i)) + 1, ((k + cntL SHead.ce (a.take i)) + 1) + 1, mkB (a.getD i default).f3 ((((k + cntL SHead.ce (a.take i)) + 1) + 1) + 1), mkB (a.getD i default).f4 (((((k + cntL SHead.ce (a.take i)) + 1) + 1) + 1) + ((a.getD i default).f3.length : Int)), (⟨(((((k + cntL SHead.ce (a.take i)) + 1) + 1) + 1) + ((a.getD i default).f3.length : Int)) + ((a.getD i default).f4.length : Int), (a.getD i default).f5.f1, (a.getD i default).f5.f2, (a.getD i default).f5.f3, (a.getD i default).f5.f4⟩ : SQc)⟩ : SHead)).map SHead.cells))) (j := 5) (off := 1) (n := 1) (one := true) rfl rfl (lt_ok rfl) (by kernel_rfl) (Nat.succ_ne_zero _) rfl rfl (lt_ok rfl)) ?_
   refine TL.cons rfl (Step.store_row (n := 1) (p := (.one (.d (.int .i64 (((((((k + cntL SHead.ce (a.take i)) + 1) + 1) + 1) + ((a.getD i default).f3.length : Int)) + ((a.getD i default).f4.length : Int)) + 1))))) (ps := [.d (.int .i64 (((((((k + cntL SHead.ce (a.take i)) + 1) + 1) + 1) + ((a.getD i default).f3.length : Int)) + ((a.getD i default).f4.length : Int)) + 1))]) (es := [(.int .i64 (((((((k + cntL SHead.ce (a.take i)) + 1) + 1) + 1) + ((a.getD i default).f3.length : Int)) + ((a.getD i default).f4.length : Int)) + 1))]) (ss := []) (d1 := (.sl 10 (((upTo SHead.ce SHead.me a k i).set i (⟨k + cntL SHead.ce (a.take i), (k + cntL SHead.ce (a.take i)) + 1, ((k + cntL SHead.ce (a.take i)) + 1) + 1, mkB (a.getD i default).f3 ((((k + cntL SHead.ce (a.take i)) + 1) + 1) + 1), mkB (a.getD i default).f4 (((((k + cntL SHead.ce (a.take i)) + 1) + 1) + 1) + ((a.getD i default).f3.length : Int)), (⟨(((((k + cntL SHead.ce (a.take i)) + 1) + 1) + 1) + ((a.getD i default).f3.length : Int)) + ((a.getD i default).f4.length : Int), ((((((k + cntL SHead.ce (a.take i)) + 1) + 1) + 1) + ((a.getD i default).f3.length : Int)) + ((a.getD i default).f4.length : Int)) + 1, (a.getD i default).f5.f2, (a.getD i default).f5.f3, (a.getD i default).f5.f4⟩ : SQc)⟩ : SHead)).map SHead.cells))) (d' := (.sl 10 (((upTo SHead.ce SHead.me a k i).set i (⟨k + cntL SHead.ce (a.take i), (k + cntL SHead.ce (a.take i)) + 1, ((k + cntL SHead.ce (a.take i)) + 1) + 1, mkB (a.getD i default).f3 ((((k + cntL SHead.ce (a.take i)) + 1) + 1) + 1), mkB (a.getD i default).f4 (((((k + cntL SHead.ce (a.take i)) + 1) + 1) + 1) + ((a.getD i default).f3.length : Int)), (⟨(((((k + cntL SHead.ce (a.take i)) + 1) + 1) + 1) + ((a.getD i default).f3.length : Int)) + ((a.getD i default).f4.length : Int), ((((((k + cntL SHead.ce (a.take i)) + 1) + 1) + 1) + ((a.getD i default).f3.length : Int)) + ((a.getD i default).f4.length : Int)) + 1, (a.getD i default).f5.f2, (a.getD i default).f5.f3, (a.getD i default).f5.f4⟩ : SQc)⟩ : SHead)).map SHead.cells))) rfl rfl (by kernel_rfl) rfl rfl rfl rfl rfl rfl (.val rfl .nil) (by simp) (Putd.fld2 SHead.len (by simp only [upTo_length]; first | omega | (simp; omega)) (lt_ok rfl) rfl) rfl) ?_
   refine TL.nil ?_
   refine T.seq ?_
   refine T.region ?_
   refine TL.cons rfl (Step.move (p := (.one (.d (.int .i64 (((((((k + cntL SHead.ce (a.take i)) + 1) + 1) + 1) + ((a.getD i default).f3.length : Int)) + ((a.getD i default).f4.length : Int)) + 1))))) rfl rfl (lt_ok rfl) rfl) ?_
   refine TL.cons rfl (Step.bin (r := .int .i64 ((((((((k + cntL SHead.ce (a.take i)) + 1) + 1) + 1) + ((a.getD i default).f3.length : Int)) + ((a.getD i default).f4.length : Int)) + 1) + 1)) rfl rfl (lt_ok rfl) rfl rfl (Bin.add (a := (((((((k + cntL SHead.ce (a.take i)) + 1) + 1) + 1) + ((a.getD i default).f3.length : Int)) + ((a.getD i default).f4.length : Int)) + 1)) (b := 1) (by first | exact wrap_ok (by first | omega | (simp; omega)) (by first | omega | (simp; omega)) | rfl))) ?_
   refine TL.cons rfl (Step.assign (p := (.one (.d (.int .i64 ((((((((k + cntL SHead.ce (a.take i)) + 1) + 1) + 1) + ((a.getD i default).f3.length : Int)) + ((a.getD i default).f4.length : Int)) + 1) + 1))))) rfl rfl (lt_ok rfl) rfl) ?_
   refine TL.nil ?_
   refine T.seq ?_
   refine T.region ?_
   refine TL.cons rfl (Step.move (p := (.one (.row 900 []))) rfl rfl (lt_ok rfl) rfl) ?_
   refine TL.cons rfl (Step.move (p := (.one (.d (.int .i64 (i : Int))))) rfl rfl (lt_ok rfl) rfl) ?_
   refine TL.cons rfl (Step.index_row (d := (.sl 10 (((upTo SHead.ce SHead.me a k i).set i (⟨k + cntL SHead.ce (a.take i), (k + cntL SHead.ce (a.take i)) + 1, ((k + cntL SHead.ce (a.take i)) + 1) + 1, mkB (a.getD i default).f3 ((((k + cntL SHead.ce (a.take i)) + 1) + 1) + 1), mkB (a.getD i default).f4 (((((k + cntL SHead.ce (a.take i)) + 1) + 1) + 1) + ((a.getD i default).f3.length : Int)), (⟨(((((k + cntL SHead.ce (a.take i)) + 1) + 1) + 1) + ((a.getD i default).f3.length : Int)) + ((a.getD i default).f4.length : Int), ((((((k + cntL SHead.ce (a.take i)) + 1) + 1) + 1) + ((a.getD i default).f3.length : Int)) + ((a.getD i default).f4.length : Int)) + 1, (a.getD i default).f5.f2, (a.getD i default).f5.f3, (a.getD i default).f5.f4⟩ : SQc)⟩ : SHead)).map SHead.cells))) (e := 66) (z := 10) (i := (i : Int)) rfl rfl (lt_ok rfl) (by kernel_rfl) rfl rfl rfl rfl (lt_ok rfl) rfl (by first | omega | (simp; omega)) (by simp only [D.at_, D.cell, D.size, List.length_set, List.length_map, upTo_length]; first | omega | (simp; omega))) ?_
   refine TL.cons rfl (Step.fieldAddr_r (d := (.sl 10 (((upTo SHead.ce SHead.me a k i).set i (⟨k + cntL SHead.ce (a.take i), (k + cntL SHead.ce (a.take i)) + 1, ((k + cntL SHead.ce (a.take i)) + 1) + 1, mkB (a.getD i default).f3 ((((k + cntL SHead.ce (a.take i)) + 1) + 1) + 1), mkB (a.getD i default).f4 (((((k + cntL SHead.ce (a.take i)) + 1) + 1) + 1) + ((a.getD i default).f3.length : Int)), (⟨(((((k + cntL SHead.ce (a.take i)) + 1) + 1) + 1) + ((a.getD i default).f3.length : Int)) + ((a.getD i default).f4.length : Int), ((((((k + cntL SHead.ce (a.take i)) + 1) + 1) + 1) + ((a.getD i default).f3.length : Int)) + ((a.getD i default).f4.length : Int)) + 1, (a.getD i default).f5.f2, (a.getD i default).f5.f3, (a.getD i default).f5.f4⟩ : SQc)⟩ : SHead)).map SHead.cells))) (j := 0) (off := 5) (n := 5) (one := false) rfl rfl (lt_ok rfl) (by kernel_rfl) (Nat.succ_ne_zero _) rfl rfl (lt_ok rfl)) ?_
   refine TL.cons rfl (Step.fieldAddr_r (d := (.sl 10 (((upTo SHead.ce SHead.me a k i).set i (⟨k + cntL SHead.ce (a.take i), (k + cntL SHead.ce (a.take i)) + 1, ((k + cntL SHead.ce (a.take i)) + 1) + 1, mkB (a.getD i default).f3 ((((k + cntL SHead.ce (a.take i)) + 1) + 1) + 1), mkB (a.getD i default).f4 (((((k + cntL SHead.ce (a.take i)) + 1) + 1) + 1) + ((a.getD i default).f3.length : Int)), (⟨(((((k + cntL SHead.ce (a.take i)) + 1) + 1) + 1) + ((a.getD i default).f3.length : Int)) + ((a.getD i default).f4.length : Int), ((((((k + cntL SHead.ce (a.take i)) + 1) + 1) + 1) + ((a.getD i default).f3.length : Int)) + ((a.getD i default).f4.length : Int)) + 1, (a.getD i default).f5.f2, (a.getD i default).f5.f3, (a.getD i default).f5.f4⟩ : SQc)⟩ : SHead)).map SHead.cells))) (j := 5) (off := 2) (n := 1) (one := true) rfl rfl (lt_ok rfl) (by kernel_rfl) (Nat.succ_ne_zero _) rfl rfl (lt_ok rfl)) ?_
   refine TL.cons rfl (Step.load_row (d := (.sl 10 (((upTo SHead.ce SHead.me a k i).set i (⟨k + cntL SHead.ce (a.take i), (k + cntL SHead.ce (a.take i)) + 1, ((k + cntL SHead.ce (a.take i)) + 1) + 1, mkB (a.getD i default).f3 ((((k + cntL SHead.ce (a.take i)) + 1) + 1) + 1), mkB (a.getD i default).f4 (((((k + cntL SHead.ce (a.take i)) + 1) + 1) + 1) + ((a.getD i default).f3.length : Int)), (⟨(((((k + cntL SHead.ce (a.take i)) + 1) + 1) + 1) + ((a.getD i default).f3.length : Int)) + ((a.getD i default).f4.length : Int), ((((((k + cntL SHead.ce (a.take i)) + 1) + 1) + 1) + ((a.getD i default).f3.length : Int)) + ((a.getD i default).f4.length : Int)) + 1, (a.getD i default).f5.f2, (a.getD i default).f5.f3, (a.getD i default).f5.f4⟩ : SQc)⟩ : SHead)).map SHead.cells))) (c := .row 900 [(i, 7)]) rfl rfl (lt_ok rfl) (by kernel_rfl) rfl rfl (ofRow_sl (cell_set_sl (z := 10) (by simp only [upTo_length]; first | omega | (simp; omega)) rfl) rfl)) ?_
   refine TL.cons rfl (Step.move (p := (.one (.d (.int .i64 ((((((((k + cntL SHead.ce (a.take i)) + 1) + 1) + 1) + ((a.getD i default).f3.length : Int)) + ((a.getD i default).f4.length : Int)) + 1) + 1))))) rfl rfl (lt_ok rfl) rfl) ?_
   refine TL.cons rfl (Step.callM (f := 32) (xs := [.tmp 68, .tmp 69]) (ps := [(.one (.row 900 [(i, 7)])), (.one (.d (.int .i64 ((((((((k + cntL SHead.ce (a.take i)) + 1) + 1) + 1) + ((a.getD i default).f3.length : Int)) + ((a.getD i default).f4.length : Int)) + 1) + 1))))]) (args := [.one (.mk (.ints .u8 (a.getD i default).f5.f2) (.ints .u8 (mkB (a.getD i default).f5.f2 ((((((((k + cntL SHead.ce (a.take i)) + 1) + 1) + 1) + ((a.getD i default).f3.length : Int)) + ((a.getD i default).f4.length : Int)) + 1) + 1)))), .one (.rd (.int .i64 ((((((((k + cntL SHead.ce (a.take i)) + 1) + 1) + 1) + ((a.getD i default).f3.length : Int)) + ((a.getD i default).f4.length : Int)) + 1) + 1)))]) (js := [(900, (.sl 10 (((upTo SHead.ce SHead.me a k i).set i (⟨k + cntL SHead.ce (a.take i), (k + cntL SHead.ce (a.take i)) + 1, ((k + cntL SHead.ce (a.take i)) + 1) + 1, mkB (a.getD i default).f3 ((((k + cntL SHead.ce (a.take i)) + 1) + 1) + 1), mkB (a.getD i default).f4 (((((k + cntL SHead.ce (a.take i)) + 1) + 1) + 1) + ((a.getD i default).f3.length : Int)), (⟨(((((k + cntL SHead.ce (a.take i)) + 1) + 1) + 1) + ((a.getD i default).f3.length : Int)) + ((a.getD i default).f4.length : Int), ((((((k + cntL SHead.ce (a.take i)) + 1) + 1) + 1) + ((a.getD i default).f3.length : Int)) + ((a.getD i default).f4.length : Int)) + 1, mkB (a.getD i default).f5.f2 ((((((((k + cntL SHead.ce (a.take i)) + 1) + 1) + 1) + ((a.getD i default).f3.length : Int)) + ((a.getD i default).f4.length : Int)) + 1) + 1), (a.getD i default).f5.f3, (a.getD i default).f5.f4⟩ : SQc)⟩ : SHead)).map SHead.cells)))]) (x := (.int .i64 (((((((((k + cntL SHead.ce (a.take i)) + 1) + 1) + 1) + ((a.getD i default).f3.length : Int)) + ((a.getD i default).f4.length : Int)) + 1) + 1) + ((a.getD i default).f5.f2.length : Int)))) (g := .func 32) rfl rfl (lt_ok rfl) rfl (by kernel_rfl) rfl rfl (.row (T := (Ts 0)) (d := (.sl 10 (((upTo SHead.ce SHead.me a k i).set i (⟨k + cntL SHead.ce (a.take i), (k + cntL SHead.ce (a.take i)) + 1, ((k + cntL SHead.ce (a.take i)) + 1) + 1, mkB (a.getD i default).f3 ((((k + cntL SHead.ce (a.take i)) + 1) + 1) + 1), mkB (a.getD i default).f4 (((((k + cntL SHead.ce (a.take i)) + 1) + 1) + 1) + ((a.getD i default).f3.length : Int)), (⟨(((((k + cntL SHead.ce (a.take i)) + 1) + 1) + 1) + ((a.getD i default).f3.length : Int)) + ((a.getD i default).f4.length : Int), ((((((k + cntL SHead.ce (a.take i)) + 1) + 1) + 1) + ((a.getD i default).f3.length : Int)) + ((a.getD i default).f4.length : Int)) + 1, (a.getD i default).f5.f2, (a.getD i default).f5.f3, (a.getD i default).f5.f4⟩ : SQc)⟩ : SHead)).map SHead.cells))) (e' := (.ints .u8 (mkB (a.getD i default).f5.f2 ((((((((k + cntL SHead.ce (a.take i)) + 1) + 1) + 1) + ((a.getD i default).f3.length : Int)) + ((a.getD i default).f4.length : Int)) + 1) + 1)))) (d' := (.sl 10 (((upTo SHead.ce SHead.me a k i).set i (⟨k + cntL SHead.ce (a.take i), (k + cntL SHead.ce (a.take i)) + 1, ((k + cntL SHead.ce (a.take i)) + 1) + 1, mkB (a.getD i default).f3 ((((k + cntL SHead.ce (a.take i)) + 1) + 1) + 1), mkB (a.getD i default).f4 (((((k + cntL SHead.ce (a.take i)) + 1) + 1) + 1) + ((a.getD i default).f3.length : Int)), (⟨(((((k + cntL SHead.ce (a.take i)) + 1) + 1) + 1) + ((a.getD i default).f3.length : Int)) + ((a.getD i default).f4.length : Int), ((((((k + cntL SHead.ce (a.take i)) + 1) + 1) + 1) + ((a.getD i default).f3.length : Int)) + ((a.getD i default).f4.length : Int)) + 1, mkB (a.getD i default).f5.f2 ((((((((k + cntL SHead.ce (a.take i)) + 1) + 1) + 1) + ((a.getD i default).f3.length : Int)) + ((a.getD i default).f4.length : Int)) + 1) + 1), (a.getD i default).f5.f3, (a.getD i default).f5.f4⟩ : SQc)⟩ : SHead)).map SHead.cells))) rfl (cell_set_sl (z := 10) (by simp only [upTo_length]; first | omega | (simp; omega)) rfl) rfl (putAt_fld2 (by simp only [upTo_length]; first | omega | (simp; omega)) rfl) rfl (by simp [D.size]) rfl rfl (.d .nil)) (ok_laws_markByteS (a.getD i default).f5.f2 ((((((((k + cntL SHead.ce (a.take i)) + 1) + 1) + 1) + ((a.getD i default).f3.length : Int)) + ((a.getD i default).f4.length : Int)) + 1) + 1) (by omega) (by first | omega | (have := (by assumption); omega))) rfl) ?_
   refine TL.cons rfl (Step.assign (p := (.one (.d (.int .i64 (((((((((k + cntL SHead.ce (a.take i)) + 1) + 1) + 1) + ((a.getD i default).f3.length : Int)) + ((a.getD i default).f4.length : Int)) + 1) + 1) + ((a.getD i default).f5.f2.length : Int)))))) rfl rfl (lt_ok rfl) rfl) ?_
   refine TL.nil ?_
   refine T.weaken (E' := { tm := [(0, (.one (.row 900 []))), (4, (.one (.d (.int .i64 0)))), (5, (.one (.d (.int .i64 (i : Int))))), (1, (.one (.d (.int .i64 (((((((((k + cntL SHead.ce (a.take i)) + 1) + 1) + 1) + ((a.getD i default).f3.length : Int)) + ((a.getD i default).f4.length : Int)) + 1) + 1) + ((a.getD i default).f5.f2.length : Int))))))], rows := [(900, ((Ts 0), (.sl 10 (((upTo SHead.ce SHead.me a k i).set i (⟨k + cntL SHead.ce (a.take i), (k + cntL SHead.ce (a.take i)) + 1, ((k + cntL SHead.ce (a.take i)) + 1) + 1, mkB (a.getD i default).f3 ((((k + cntL SHead.ce (a.take i)) + 1) + 1) + 1), mkB (a.getD i default).f4 (((((k + cntL SHead.ce (a.take i)) + 1) + 1) + 1) + ((a.getD i default).f3.length : Int)), (⟨(((((k + cntL SHead.ce (a.take i)) + 1) + 1) + 1) + ((a.getD i default).f3.length : Int)) + ((a.getD i default).f4.length : Int), ((((((k + cntL SHead.ce (a.take i)) + 1) + 1) + 1) + ((a.getD i default).f3.length : Int)) + ((a.getD i default).f4.length : Int)) + 1, mkB (a.getD i default).f5.f2 ((((((((k + cntL SHead.ce (a.take i)) + 1) + 1) + 1) + ((a.getD i default).f3.length : Int)) + ((a.getD i default).f4.length : Int)) + 1) + 1), (a.getD i default).f5.f3, (a.getD i default).f5.f4⟩ : SQc)⟩ : SHead)).map SHead.cells))))], boxes := [] }) (Env.le_mk ⟨by kernel_rfl, by kernel_rfl, by kernel_rfl, by kernel_rfl, trivial⟩ ⟨by kernel_rfl, trivial⟩ trivial) ?_
   refine T.seq ?_
   refine T.region ?_
   refine TL.cons rfl (Step.move (p := (.one (.row 900 []))) rfl rfl (lt_ok rfl) rfl) ?_
   refine TL.cons rfl (Step.move (p := (.one (.d (.int .i64 (i : Int))))) rfl rfl (lt_ok rfl) rfl) ?_
   refine TL.cons rfl (Step.index_row (d := (.sl 10 (((upTo SHead.ce SHead.me a k i).set i (⟨k + cntL SHead.ce (a.take i), (k + cntL SHead.ce (a.take i)) + 1, ((k + cntL SHead.ce (a.take i)) + 1) + 1, mkB (a.getD i default).f3 ((((k + cntL SHead.ce (a.take i)) + 1) + 1) + 1), mkB (a.getD i default).f4 (((((k + cntL SHead.ce (a.take i)) + 1) + 1) + 1) + ((a.getD i default).f3.length : Int)), (⟨(((((k + cntL SHead.ce (a.take i)) + 1) + 1) + 1) + ((a.getD i default).f3.length : Int)) + ((a.getD i default).f4.length : Int), ((((((k + cntL SHead.ce (a.take i)) + 1) + 1) + 1) + ((a.getD i default).f3.length : Int)) + ((a.getD i default).f4.length : Int)) + 1, mkB (a.getD i default).f5.f2 ((((((((k + cntL SHead.ce (a.take i)) + 1) + 1) + 1) + ((a.getD i default).f3.length : Int)) + ((a.getD i default).f4.length : Int)) + 1) + 1), (a.getD i default).f5.f3, (a.getD i default).f5.f4⟩ : SQc)⟩ : SHead)).map SHead.cells))) (e := 66) (z := 10) (i := (i : Int)) rfl rfl (lt_ok rfl) (by kernel_rfl) rfl rfl rfl rfl (lt_ok rfl) rfl (by first | omega | (simp; omega)) (by simp only [D.at_, D.cell, D.size, List.length_set, List.length_map, upTo_length]; first | omega | (simp; omega))) ?_
   refine TL.cons rfl (Step.fieldAddr_r (d := (.sl 10 (((upTo SHead.ce SHead.me a k i).set i (⟨k + cntL SHead.ce (a.take i), (k + cntL SHead.ce (a.take i)) + 1, ((k + cntL SHead.ce (a.take i)) + 1) + 1, mkB (a.getD i default).f3 ((((k + cntL SHead.ce (a.take i)) + 1) + 1) + 1), mkB (a.getD i default).f4 (((((k + cntL SHead.ce (a.take i)) + 1) + 1) + 1) + ((a.getD i default).f3.length : Int)), (⟨(((((k + cntL SHead.ce (a.take i)) + 1) + 1) + 1) + ((a.getD i default).f3.length : Int)) + ((a.getD i default).f4.length : Int), ((((((k + cntL SHead.ce (a.take i)) + 1) + 1) + 1) + ((a.getD i default).f3.length : Int)) + ((a.getD i default).f4.length : Int)) + 1, mkB (a.getD i default).f5.f2 ((((((((k + cntL SHead.ce (a.take i)) + 1) + 1) + 1) + ((a.getD i default).f3.length : Int)) + ((a.getD i default).f4.length : Int)) + 1) + 1), (a.getD i default).f5.f3, (a.getD i default).f5.f4⟩ : SQc)⟩ : SHead)).map SHead.cells))) (j := 0) (off := 5) (n := 5) (one := false) rfl rfl (lt_ok rfl) (by kernel_rfl) (Nat.succ_ne_zero _) rfl rfl (lt_ok rfl)) ?_
   refine TL.cons rfl (Step.fieldAddr_r (d := (.sl 10 (((upTo SHead.ce SHead.me a k i).set i (⟨k + cntL SHead.ce (a.take i), (k + cntL SHead.ce (a.take i)) + 1, ((k + cntL SHead.ce (a.take i)) + 1) + 1, mkB (a.getD i default).f3 ((((k + cntL SHead.ce (a.take i)) + 1) + 1) + 1), mkB (a.getD i default).f4 (((((k + cntL SHead.ce (a.take i)) + 1) + 1) + 1) + ((a.getD i default).f3.length : Int)), (⟨(((((k + cntL SHead.ce (a.take i)) + 1) + 1) + 1) + ((a.getD i default).f3.length : Int)) + ((a.getD i default).f4.length : Int), ((((((k + cntL SHead.ce (a.take i)) + 1) + 1) + 1) + ((a.getD i default).f3.length : Int)) + ((a.getD i default).f4.length : Int)) + 1, mkB (a.getD i default).f5.f2 ((((((((k + cntL SHead.ce (a.take i)) + 1) + 1) + 1) + ((a.getD i default).f3.length : Int)) + ((a.getD i default).f4.length : Int)) + 1) + 1), (a.getD i default).f5.f3, (a.getD i default).f5.f4⟩ : SQc)⟩ : SHead)).map SHead.cells))) (j := 5) (off := 3) (n := 1) (one := true) rfl rfl (lt_ok rfl) (by kernel_rfl) (Nat.succ_ne_zero _) rfl rfl (lt_ok rfl)) ?_
   refine TL.cons rfl (Step.load_row (d := (.sl 10 (((upTo SHead.ce SHead.me a k i).set i (⟨k + cntL SHead.ce (a.take i), (k + cntL SHead.ce (a.take i)) + 1, ((k + cntL SHead.ce (a.take i)) + 1) + 1, mkB (a.getD i default).f3 ((((k + cntL SHead.ce (a.take i)) + 1) + 1) + 1), mkB (a.getD i default).f4 (((((k + cntL SHead.ce (a.take i)) + 1) + 1) + 1) + ((a.getD i default).f3.length : Int)), (⟨(((((k + cntL SHead.ce (a.take i)) + 1) + 1) + 1) + ((a.getD i default).f3.length : Int)) + ((a.getD i default).f4.length : Int), ((((((k + cntL SHead.ce (a.take i)) + 1) + 1) + 1) + ((a.getD i default).f3.length : Int)) + ((a.getD i default).f4.length : Int)) + 1, mkB (a.getD i default).f5.f2 ((((((((k + cntL SHead.ce (a.take i)) + 1) + 1) + 1) + ((a.getD i default).f3.length : Int)) + ((a.getD i default).f4.length : Int)) + 1) + 1), (a.getD i default).f5.f3, (a.getD i default).f5.f4⟩ : SQc)⟩ : SHead)).map SHead.cells))) (c := .row 900 [(i, 8)]) rfl rfl (lt_ok rfl) (by kernel_rfl) rfl rfl (ofRow_sl (cell_set_sl (z := 10) (by simp only [upTo_length]; first | omega | (simp; omega)) rfl) rfl)) ?_
   refine TL.cons rfl (Step.move (p := (.one (.d (.int .i64 (((((((((k + cntL SHead.ce (a.take i)) + 1) + 1) + 1) + ((a.getD i default).f3.length : Int)) + ((a.getD i default).f4.length : Int)) + 1) + 1) + ((a.getD i default).f5.f2.length : Int)))))) rfl rfl (lt_ok rfl) rfl) ?_
   refine TL.cons rfl (Step.callM (f := 32) (xs := [.tmp 76, .tmp 77]) (ps := [(.one (.row 900 [(i, 8)])), (.one (.d (.int .i64 (((((((((k + cntL SHead.ce (a.take i)) + 1) + 1) + 1) + ((a.getD i default).f3.length : Int)) + ((a.getD i default).f4.length : Int)) + 1) + 1) + ((a.getD i default).f5.f2.length : Int)))))]) (args := [.one (.mk (.ints .u8 (a.getD i default).f5.f3) (.ints .u8 (mkB (a.getD i default).f5.f3 (((((((((k + cntL SHead.ce (a.take i)) + 1) + 1) + 1) + ((a.getD i default).f3.length : Int)) + ((a.getD i default).f4.length : Int)) + 1) + 1) + ((a.getD i default).f5.f2.length : Int))))), .one (.rd (.int .i64 (((((((((k + cntL SHead.ce (a.take i)) + 1) + 1) + 1) + ((a.getD i default).f3.length : Int)) + ((a.getD i default).f4.length : Int)) + 1) + 1) + ((a.getD i default).f5.f2.length : Int))))]) (js := [(900, (.sl 10 (((upTo SHead.ce SHead.me a k i).set i (⟨k + cntL SHead.ce (a.take i), (k + cntL SHead.ce (a.take i)) + 1, ((k + cntL SHead.ce (a.take i)) + 1) + 1, mkB (a.getD i default).f3 ((((k + cntL SHead.ce (a.take i)) + 1) + 1) + 1), mkB (a.getD i default).f4 (((((k + cntL SHead.ce (a.take i)) + 1) + 1) + 1) + ((a.getD i default).f3.length : Int)), (⟨(((((k + cntL SHead.ce (a.take i)) + 1) + 1) + 1) + ((a.getD i default).f3.length : Int)) + ((a.getD i default).f4.length : Int), ((((((k + cntL SHead.ce (a.take i)) + 1) + 1) + 1) + ((a.getD i default).f3.length : Int)) + ((a.getD i default).f4.length : Int)) + 1, mkB (a.getD i default).f5.f2 ((((((((k + cntL SHead.ce (a.take i)) + 1) + 1) + 1) + ((a.getD i default).f3.length : Int)) + ((a.getD i default).f4.length : Int)) + 1) + 1), mkB (a.getD i default).f5.f3 (((((((((k + cntL SHead.ce (a.take i)) + 1) + 1) + 1) + ((a.getD i default).f3.length : Int)) + ((a.getD i default).f4.length : Int)) + 1) + 1) + ((a.getD i default).f5.f2.length : Int)), (a.getD i default).f5.f4⟩ : SQc)⟩ : SHead)).map SHead.cells)))]) (x := (.int .i64 ((((((((((k + cntL SHead.ce (a.take i)) + 1) + 1) + 1) + ((a.getD i default).f3.length : Int)) + ((a.getD i default).f4.length : Int)) + 1) + 1) + ((a.getD i default).f5.f2.length : Int)) + ((a.getD i default).f5.f3.length : Int)))) (g := .func 32) rfl rfl (lt_ok rfl) rfl (by kernel_rfl) rfl rfl (.row (T := (Ts 0)) (d := (.sl 10 (((upTo SHead.ce SHead.me a k i).set i (⟨k + cntL SHead.ce (a.take i), (k + cntL SHead.ce (a.take i)) + 1, ((k + cntL SHead.ce (a.take i)) + 1) + 1, mkB (a.getD i default).f3 ((((k + cntL SHead.ce (a.take i)) + 1) + 1) + 1), mkB (a.getD i default).f4 (((((k + cntL SHead.ce (a.take i)) + 1) + 1) + 1) + ((a.getD i default).f3.length : Int)), (⟨(((((k + cntL SHead.ce (a.take i)) + 1) + 1) + 1) + ((a.getD i default).f3.length : Int)) + ((a.getD i default).f4.length : Int), ((((((k + cntL SHead.ce (a.take i)) + 1) + 1) + 1) + ((a.getD i default).f3.length : Int)) + ((a.getD i default).f4.length : Int)) + 1, mkB (a.getD i default).f5.f2 ((((((((k + cntL SHead.ce (a.take i)) + 1) + 1) + 1) + ((a.getD i default).f3.length : Int)) + ((a.getD i default).f4.length : Int)) + 1) + 1), (a.getD i default).f5.f3, (a.getD i default).f5.f4⟩ : SQc)⟩ : SHead)).map SHead.cells))) (e' := (.ints .u8 (mkB (a.getD i default).f5.f3 (((((((((k + cntL SHead.ce (a.take i)) + 1) + 1) + 1) + ((a.getD i default).f3.length : Int)) + ((a.getD i default).f4.length : Int)) + 1) + 1) + ((a.getD i default).f5.f2.length : Int))))) (d' := (.sl 10 (((upTo SHead.ce SHead.me a k i).set i (⟨k + cntL SHead.ce (a.take i), (k + cntL SHead.ce (a.take i)) + 1, ((k + cntL SHead.ce (a.take i)) + 1) + 1, mkB (a.getD i default).f3 ((((k + cntL SHead.ce (a.take i)) + 1) + 1) + 1), mkB (a.getD i default).f4 (((((k + cntL SHead.ce (a.take i)) + 1) + 1) + 1) + ((a.getD i default).f3.length : Int)), (⟨(((((k + cntL SHead.ce (a.take i)) + 1) + 1) + 1) + ((a.getD i default).f3.length : Int)) + ((a.getD i default).f4.length : Int), ((((((k + cntL SHead.ce (a.take i)) + 1) + 1) + 1) + ((a.getD i default).f3.length : Int)) + ((a.getD i default).f4.length : Int)) + 1, mkB (a.getD i default).f5.f2 ((((((((k + cntL SHead.ce (a.take i)) + 1) + 1) + 1) + ((a.getD i default).f3.length : Int)) + ((a.getD i default).f4.length : Int)) + 1) + 1), mkB (a.getD i default).f5.f3 (((((((((k + cntL SHead.ce (a.take i)) + 1) + 1) + 1) + ((a.getD i default).f3.length : Int)) + ((a.getD i default).f4.length : Int)) + 1) + 1) + ((a.getD i default).f5.f2.length : Int)), (a.getD i default).f5.f4⟩ : SQc)⟩ : SHead)).map SHead.cells))) rfl (cell_set_sl (z := 10) (by simp only [upTo_length]; first | omega | (simp; omega)) rfl) rfl (putAt_fld2 (by simp only [upTo_length]; first | omega | (simp; omega)) rfl) rfl (by simp [D.size]) rfl rfl (.d .nil)) (ok_laws_markByteS (a.getD i default).f5.f3 (((((((((k + cntL SHead.ce (a.take i)) + 1) + 1) + 1) + ((a.getD i default).f3.length : Int)) + ((a.getD i default).f4.length : Int)) + 1) + 1) + ((a.getD i default).f5.f2.length : Int)) (by omega) (by first | omega | (have := (by assumption); omega))) rfl) ?_
   refine TL.cons rfl (Step.assign (p := (.one (.d (.int .i64 ((((((((((k + cntL SHead.ce (a.take i)) + 1) + 1) + 1) + ((a.getD i default).f3.length : Int)) + ((a.getD i default).f4.length : Int)) + 1) + 1) + ((a.getD i default).f5.f2.length : Int)) + ((a.getD i default).f5.f3.length : Int)))))) rfl rfl (lt_ok rfl) rfl) ?_
   refine TL.nil ?_
   refine T.region ?_
   refine TL.cons rfl (Step.move (p := (.one (.row 900 []))) rfl rfl (lt_ok rfl) rfl) ?_
   refine TL.cons rfl (Step.move (p := (.one (.d (.int .i64 (i : Int))))) rfl rfl (lt_ok rfl) rfl) ?_
   refine TL.cons rfl (Step.index_row (d := (.sl 10 (((upTo SHead.ce SHead.me a k i).set i (⟨k + cntL SHead.ce (a.take i), (k + cntL SHead.ce (a.take i)) + 1, ((k + cntL SHead.ce (a.take i)) + 1) + 1, mkB (a.getD i default).f3 ((((k + cntL SHead.ce (a.take i)) + 1) + 1) + 1), mkB (a.getD i default).f4 (((((k + cntL SHead.ce (a.take i)) + 1) + 1) + 1) + ((a.getD i default).f3.length : Int)), (⟨(((((k + cntL SHead.ce (a.take i)) + 1) + 1) + 1) + ((a.getD i default).f3.length : Int)) + ((a.getD i default).f4.length : Int), ((((((k + cntL SHead.ce (a.take i)) + 1) + 1) + 1) + ((a.getD i default).f3.length : Int)) + ((a.getD i default).f4.length : Int)) + 1, mkB (a.getD i default).f5.f2 ((((((((k + cntL SHead.ce (a.take i)) + 1) + 1) + 1) + ((a.getD i default).f3.length : Int)) + ((a.getD i default).f4.length : Int)) + 1) + 1), mkB (a.getD i default).f5.f3 (((((((((k + cntL SHead.ce (a.take i)) + 1) + 1) + 1) + ((a.getD i default).f3.length : Int)) + ((a.getD i default).f4.length : Int)) + 1) + 1) + ((a.getD i default).f5.f2.length : Int)), (a.getD i default).f5.f4⟩ : SQc)⟩ : SHead)).map SHead.cells))) (e := 66) (z := 10) (i := (i : Int)) rfl rfl (lt_ok rfl) (by kernel_rfl) rfl rfl rfl rfl (lt_ok rfl) rfl (by first | omega | (simp; omega)) (by simp only [D.at_, D.cell, D.size, List.length_set, List.length_map, upTo_length]; first | omega | (simp; omega))) ?_
   refine TL.cons rfl (Step.fieldAddr_r (d := (.sl 10 (((upTo SHead.ce SHead.me a k i).set i (⟨k + cntL SHead.ce (a.take i), (k + cntL SHead.ce (a.take i)) + 1, ((k + cntL SHead.ce (a.take i)) + 1) + 1, mkB (a.getD i default).f3 ((((k + cntL SHead.ce (a.take i)) + 1) + 1) + 1), mkB (a.getD i default).f4 (((((k + cntL SHead.ce (a.take i)) + 1) + 1) + 1) + ((a.getD i default).f3.length : Int)), (⟨(((((k + cntL SHead.ce (a.take i)) + 1) + 1) + 1) + ((a.getD i default).f3.length : Int)) + ((a.getD i default).f4.length : Int), ((((((k + cntL SHead.ce (a.take i)) + 1) + 1) + 1) + ((a.getD i default).f3.length : Int)) + ((a.getD i default).f4.length : Int)) + 1, mkB (a.getD i default).f5.f2 ((((((((k + cntL SHead.ce (a.take i)) + 1) + 1) + 1) + ((a.getD i default).f3.length : Int)) + ((a.getD i default).f4.length : Int)) + 1) + 1), mkB (a.getD i default).f5.f3 (((((((((k + cntL SHead.ce (a.take i)) + 1) + 1) + 1) + ((a.getD i default).f3.length : Int)) + ((a.getD i default).f4.length : Int)) + 1) + 1) + ((a.getD i default).f5.f2.length : Int)), (a.getD i default).f5.f4⟩ : SQc)⟩ : SHead)).map SHead.cells))) (j := 0) (off := 5) (n := 5) (one := false) rfl rfl (lt_ok rfl) (by kernel_rfl) (Nat.succ_ne_zero _) rfl rfl (lt_ok rfl)) ?_
   refine TL.cons rfl (Step.fieldAddr_r (d := (.sl 10 (((upTo SHead.ce SHead.me a k i).set i (⟨k + cntL SHead.ce (a.take i), (k + cntL SHead.ce (a.take i)) + 1, ((k + cntL SHead.ce (a.take i)) + 1) + 1, mkB (a.getD i default).f3 ((((k + cntL SHead.ce (a.take i)) + 1) + 1) + 1), mkB (a.getD i default).f4 (((((k + cntL SHead.ce (a.take i)) + 1) + 1) + 1) + ((a.getD i default).f3.length : Int)), (⟨(((((k + cntL SHead.ce (a.take i)) + 1) + 1) + 1) + ((a.getD i default).f3.length : Int)) + ((a.getD i default).f4.length : Int), ((((((k + cntL SHead.ce (a.take i)) + 1) + 1) + 1) + ((a.getD i default).f3.length : Int)) + ((a.getD i default).f4.length : Int)) + 1, mkB (a.getD i default).f5.f2 ((((((((k + cntL SHead.ce (a.take i)) + 1) + 1) + 1) + ((a.getD i default).f3.length : Int)) + ((a.getD i default).f4.length : Int)) + 1) + 1), mkB (a.getD i default).f5.f3 (((((((((k + cntL SHead.ce (a.take i)) + 1) + 1) + 1) + ((a.getD i default).f3.length : Int)) + ((a.getD i default).f4.length : Int)) + 1) + 1) + ((a.getD i default).f5.f2.length : Int)), (a.getD i default).f5.f4⟩ : SQc)⟩ : SHead)).map SHead.cells))) (j := 5) (off := 4) (n := 1) (one := true) rfl rfl (lt_ok rfl) (by kernel_rfl) (Nat.succ_ne_zero _) rfl rfl (lt_ok rfl)) ?_
   refine TL.cons rfl (Step.load_row (d := (.sl 10 (((upTo SHead.ce SHead.me a k i).set i (⟨k + cntL SHead.ce (a.take i), (k + cntL SHead.ce (a.take i)) + 1, ((k + cntL SHead.ce (a.take i)) + 1) + 1, mkB (a.getD i default).f3 ((((k + cntL SHead.ce (a.take i)) + 1) + 1) + 1), mkB (a.getD i default).f4 (((((k + cntL SHead.ce (a.take i)) + 1) + 1) + 1) + ((a.getD i default).f3.length : Int)), (⟨(((((k + cntL SHead.ce (a.take i)) + 1) + 1) + 1) + ((a.getD i default).f3.length : Int)) + ((a.getD i default).f4.length : Int), ((((((k + cntL SHead.ce (a.take i)) + 1) + 1) + 1) + ((a.getD i default).f3.length : Int)) + ((a.getD i default).f4.length : Int)) + 1, mkB (a.getD i default).f5.f2 ((((((((k + cntL SHead.ce (a.take i)) + 1) + 1) + 1) + ((a.getD i default).f3.length : Int)) + ((a.getD i default).f4.length : Int)) + 1) + 1), mkB (a.getD i default).f5.f3 (((((((((k + cntL SHead.ce (a.take i)) + 1) + 1) + 1) + ((a.getD i default).f3.length : Int)) + ((a.getD i default).f4.length : Int)) + 1) + 1) + ((a.getD i default).f5.f2.length : Int)), (a.getD i default).f5.f4⟩ : SQc)⟩ : SHead)).map SHead.cells))) (c := .row 900 [(i, 9)]) rfl rfl (lt_ok rfl) (by kernel_rfl) rfl rfl (ofRow_sl (cell_set_sl (z := 10) (by simp only [upTo_length]; first | omega | (simp; omega)) rfl) rfl)) ?_
   refine TL.cons rfl (Step.move (p := (.one (.d (.int .i64 ((((((((((k + cntL SHead.ce (a.take i)) + 1) + 1) + 1) + ((a.getD i default).f3.length : Int)) + ((a.getD i default).f4.length : Int)) + 1) + 1) + ((a.getD i default).f5.f2.length : Int)) + ((a.getD i default).f5.f3.length : Int)))))) rfl rfl (lt_ok rfl) rfl) ?_
   have nn2 := cntBs_nonneg (a.getD i default).f5.f4
   refine TL.cons rfl (Step.callM (f := 85) (xs := [.tmp 84, .tmp 85]) (ps := [(.one (.row 900 [(i, 9)])), (.one (.d (.int .i64 ((((((((((k + cntL SHead.ce (a.take i)) + 1) + 1) + 1) + ((a.getD i default).f3.length : Int)) + ((a.getD i default).f4.length : Int)) + 1) + 1) + ((a.getD i default).f5.f2.length : Int)) + ((a.getD i default).f5.f3.length : Int)))))]) (args := [.one (.mk (.bss (a.getD i default).f5.f4) (.bss (mkBs (a.getD i default).f5.f4 ((((((((((k + cntL SHead.ce (a.take i)) + 1) + 1) + 1) + ((a.getD i default).f3.length : Int)) + ((a.getD i default).f4.length : Int)) + 1) + 1) + ((a.getD i default).f5.f2.length : Int)) + ((a.getD i default).f5.f3.length : Int))))), .one (.rd (.int .i64 ((((((((((k + cntL SHead.ce (a.take i)) + 1) + 1) + 1) + ((a.getD i default).f3.length : Int)) + ((a.getD i default).f4.length : Int)) + 1) + 1) + ((a.getD i default).f5.f2.length : Int)) + ((a.getD i default).f5.f3.length : Int))))]) (js := [(900, (.sl 10 (((upTo SHead.ce SHead.me a k i).set i (⟨k + cntL SHead.ce (a.take i), (k + cntL SHead.ce (a.take i)) + 1, ((k + cntL SHead.ce (a.take i)) + 1) + 1, mkB (a.getD i default).f3 ((((k + cntL SHead.ce (a.take i)) + 1) + 1) + 1), mkB (a.getD i default).f4 (((((k + cntL SHead.ce (a.take i)) + 1) + 1) + 1) + ((a.getD i default).f3.length : Int)), (⟨(((((k + cntL SHead.ce (a.take i)) + 1) + 1) + 1) + ((a.getD i default).f3.length : Int)) + ((a.getD i default).f4.length : Int), ((((((k + cntL SHead.ce (a.take i)) + 1) + 1) + 1) + ((a.getD i default).f3.length : Int)) + ((a.getD i default).f4.length : Int)) + 1, mkB (a.getD i default).f5.f2 ((((((((k + cntL SHead.ce (a.take i)) + 1) + 1) + 1) + ((a.getD i default).f3.length : Int)) + ((a.getD i default).f4.length : Int)) + 1) + 1), mkB (a.getD i default).f5.f3 (((((((((k + cntL SHead.ce (a.take i)) + 1) + 1) + 1) + ((a.getD i default).f3.length : Int)) + ((a.getD i default).f4.length : Int)) + 1) + 1) + ((a.getD i default).f5.f2.length : Int)), mkBs (a.getD i default).f5.f4 ((((((((((k + cntL SHead.ce (a.take i)) + 1) + 1) + 1) + ((a.getD i default).f3.length : Int)) + ((a.getD i default).f4.length : Int)) + 1) + 1) + ((a.getD i default).f5.f2.length : Int)) + ((a.getD i default).f5.f3.length : Int))⟩ : SQc)⟩ : SHead)).map SHead.cells)))]) (x := (.int .i64 (((((((((((k + cntL SHead.ce (a.take i)) + 1) + 1) + 1) + ((a.getD i default).f3.length : Int)) + ((a.getD i default).f4.length : Int)) + 1) + 1) + ((a.getD i default).f5.f2.length : Int)) + ((a.getD i default).f5.f3.length : Int)) + cntL (fun x : List Int => (x.length : Int)) (a.getD i default).f5.f4))) (g := .func 85) rfl rfl (lt_ok rfl) rfl (by kernel_rfl) rfl rfl (.row (T := (Ts 0)) (d := (.sl 10 (((upTo SHead.ce SHead.me a k i).set i (⟨k + cntL SHead.ce (a.take i), (k + cntL SHead.ce (a.take i)) + 1, ((k + cntL SHead.ce (a.take i)) + 1) + 1, mkB (a.getD i default).f3 ((((k + cntL SHead.ce (a.take i)) + 1) + 1) + 1), mkB (a.getD i default).f4 (((((k + cntL SHead.ce (a.take i)) + 1) + 1) + 1) + ((a.getD i default).f3.length : Int)), (⟨(((((k + cntL SHead.ce (a.take i)) + 1) + 1) + 1) + ((a.getD i default).f3.length : Int)) + ((a.getD i default).f4.length : Int), ((((((k + cntL SHead.ce (a.take i)) + 1) + 1) + 1) + ((a.getD i default).f3.length : Int)) + ((a.getD i default).f4.length : Int)) + 1, mkB (a.getD i default).f5.f2 ((((((((k + cntL SHead.ce (a.take i)) + 1) + 1) + 1) + ((a.getD i default).f3.length : Int)) + ((a.getD i default).f4.length : Int)) + 1) + 1), mkB (a.getD i default).f5.f3 (((((((((k + cntL SHead.ce (a.take i)) + 1) + 1) + 1) + ((a.getD i default).f3.length : Int)) + ((a.getD i default).f4.length : Int)) + 1) + 1) + ((a.getD i default).f5.f2.length : Int)), (a.getD i default).f5.f4⟩ : SQc)⟩ : SHead)).map SHead.cells))) (e' := (.bss (mkBs (a.getD i default).f5.f4 ((((((((((k + cntL SHead.ce (a.take i)) + 1) + 1) + 1) + ((a.getD i default).f3.length : Int)) + ((a.getD i default).f4.length : Int)) + 1) + 1) + ((a.getD i default).f5.f2.length : Int)) + ((a.getD i default).f5.f3.length : Int))))) (d' := (.sl 10 (((upTo SHead.ce SHead.me a k i).set i (⟨k + cntL SHead.ce (a.take i), (k + cntL SHead.ce (a.take i)) + 1, ((k + cntL SHead.ce (a.take i)) + 1) + 1, mkB (a.getD i default).f3 ((((k + cntL SHead.ce (a.take i)) + 1) + 1) + 1), mkB (a.getD i default).f4 (((((k + cntL SHead.ce (a.take i)) + 1) + 1) + 1) + ((a.getD i default).f3.length : Int)), (⟨(((((k + cntL SHead.ce (a.take i)) + 1) + 1) + 1) + ((a.getD i default).f3.length : Int)) + ((a.getD i default).f4.length : Int), ((((((k + cntL SHead.ce (a.take i)) + 1) + 1) + 1) + ((a.getD i default).f3.length : Int)) + ((a.getD i default).f4.length : Int)) + 1, mkB (a.getD i default).f5.f2 ((((((((k + cntL SHead.ce (a.take i)) + 1) + 1) + 1) + ((a.getD i default).f3.length : Int)) + ((a.getD i default).f4.length : Int)) + 1) + 1), mkB (a.getD i default).f5.f3 (((((((((k + cntL SHead.ce (a.take i)) + 1) + 1) + 1) + ((a.getD i default).f3.length : Int)) + ((a.getD i default).f4.length : Int)) + 1) + 1) + ((a.getD i default).f5.f2.length : Int)), mkBs (a.getD i default).f5.f4 ((((((((((k + cntL SHead.ce (a.take i)) + 1) + 1) + 1) + ((a.getD i default).f3.length : Int)) + ((a.getD i default).f4.length : Int)) + 1) + 1) + ((a.getD i default).f5.f2.length : Int)) + ((a.getD i default).f5.f3.length : Int))⟩ : SQc)⟩ : SHead)).map SHead.cells))) rfl (cell_set_sl (z := 10) (by simp only [upTo_length]; first | omega | (simp; omega)) rfl) rfl (putAt_fld2 (by simp only [upTo_length]; first | omega | (simp; omega)) rfl) rfl (by simp [D.size]) rfl rfl (.d .nil)) (ok_laws_markByteSS (a.getD i default).f5.f4 ((((((((((k + cntL SHead.ce (a.take i)) + 1) + 1) + 1) + ((a.getD i default).f3.length : Int)) + ((a.getD i default).f4.length : Int)) + 1) + 1) + ((a.getD i default).f5.f2.length : Int)) + ((a.getD i default).f5.f3.length : Int)) (by omega) (by first | omega | (have := cntBs_le (xs := (a.getD i default).f5.f4) (by assumption); omega))) rfl) ?_
   refine TL.cons rfl (Step.assign (p := (.one (.d (.int .i64 (((((((((((k + cntL SHead.ce (a.take i)) + 1) + 1) + 1) + ((a.getD i default).f3.length : Int)) + ((a.getD i default).f4.length : Int)) + 1) + 1) + ((a.getD i default).f5.f2.length : Int)) + ((a.getD i default).f5.f3.length : Int)) + cntL (fun x : List Int => (x.length : Int)) (a.getD i default).f5.f4))))) rfl rfl (lt_ok rfl) rfl) ?_
   refine TL.nil ?_
   refine T.region ?_
   refine TL.cons rfl (Step.move (p := (.one (.d (.int .i64 (i : Int))))) rfl rfl (lt_ok rfl) rfl) ?_
   refine TL.cons rfl (Step.bin (r := .int .i64 ((i : Int) + 1)) rfl rfl (lt_ok rfl) rfl rfl (Bin.add (a := (i : Int)) (b := 1) (by first | exact wrap_ok (by first | omega | (simp; omega)) (by first | omega | (simp; omega)) | rfl))) ?_
   refine TL.cons rfl (Step.assign (p := (.one (.d (.int .i64 ((i : Int) + 1))))) rfl rfl (lt_ok rfl) rfl) ?_
   refine TL.nil ?_
   exact ⟨i + 1, by omega, by first | omega | (dsimp only; omega), Env.le_mk ⟨rfl, rfl, by first | exact congrArg (fun x => some (Ts 0, D.sl 10 (List.map SHead.cells x))) (upTo_next (df := default) (by omega) rfl) | exact congrArg (fun x => some (Ts 0, D.sl 10 (List.map SHead.cells x))) (upTo_first a k default) | rfl | (refine congrArg (fun n => PV.one (.d (.int .i64 n))) ?_; first | omega | (simp; done) | (simp [cntL]; done)), by first | exact congrArg (fun x => some (Ts 0, D.sl 10 (List.map SHead.cells x))) (upTo_next (df := default) (by omega) rfl) | exact congrArg (fun x => some (Ts 0, D.sl 10 (List.map SHead.cells x))) (upTo_first a k default) | rfl | (refine congrArg (fun n => PV.one (.d (.int .i64 n))) ?_; first | omega | (simp; done) | (simp [cntL]; done)), trivial⟩ ⟨by first | exact congrArg (fun x => some (Ts 0, D.sl 10 (List.map SHead.cells x))) (upTo_next (df := default) (by omega) rfl) | exact congrArg (fun x => some (Ts 0, D.sl 10 (List.map SHead.cells x))) (upTo_first a k default) | rfl | (refine congrArg (fun n => PV.one (.d (.int .i64 n))) ?_; first | omega | (simp; done) | (simp [cntL]; done)), trivial⟩ trivial⟩
  ·
   replace h1 := of_decide_eq_false h1
   refine T.exit ?_
   refine T.seq ?_
   refine T.region ?_
   refine TL.cons rfl (Step.move (p := (.one (.d (.int .i64 (k + cntL SHead.ce (a.take i)))))) rfl rfl (lt_ok rfl) rfl) ?_
   refine TL.cons rfl (Step.assign (p := (.one (.d (.int .i64 (k + cntL SHead.ce (a.take i)))))) rfl rfl (lt_ok rfl) rfl) ?_
   refine TL.nil ?_
   refine T.ret ?_
   exact ⟨⟨⟨[(false, [.d (.int .i64 (k + cntL SHead.ce (a.take i)))])], (.cons rfl .nil), rfl, [], (RetC.rd' (by (congr 1; rw [cntL_all (by omega)])) .nil)⟩, rfl⟩, (.mk' (by exact congrArg (fun x => some (Ts 0, D.sl 10 (List.map SHead.cells x))) (upTo_end (by omega))) (.rd .nil'))⟩
theorem ok_laws_markProof (a : SProof) (k : Int) (h0_ : 0 ≤ k) (h1_ : k + a.cm ≤ 4611686018427387904) : MK Try.prog 103 [.agg [.mk (.sl 10 (a.f0.map SHead.cells)) (.sl 10 ((mkL SHead.ce SHead.me a.f0 k).map SHead.cells)), .rd (.int .i64 a.f1.f0), .rd (.int .i64 a.f1.f1), .mk (.ints .u8 a.f1.f2) (.ints .u8 (mkB a.f1.f2 (k + cntL SHead.ce a.f0))), .mk (.ints .u8 a.f1.f3) (.ints .u8 (mkB a.f1.f3 ((k + cntL SHead.ce a.f0) + (a.f1.f2.length : Int)))), .mk (.bss a.f1.f4) (.bss (mkBs a.f1.f4 (((k + cntL SHead.ce a.f0) + (a.f1.f2.length : Int)) + (a.f1.f3.length : Int))))], .one (.rd (.int .i64 k))] [(false, [.rd (.int .i64 (k + a.cm))])] := by
 refine MK.intro Try.func103 rfl 14 rfl (le_ok rfl) (le_ok rfl) rfl fun w Z IX pin Ts hp => ?_
 have n0 := cntL_nonneg SHead.ce_nn a.f0
 have n1 := SQc.cm_nn a.f1
 simp only [SProof.cm] at h1_
 refine T.seq ?_
 refine T.region ?_
 refine TL.cons rfl (Step.box (p := (.agg [.row 900 [], .d (.int .i64 a.f1.f0), .d (.int .i64 a.f1.f1), .row 903 [], .row 904 [], .row 905 []])) (ps := [.row 900 [], .d (.int .i64 a.f1.f0), .d (.int .i64 a.f1.f1), .row 903 [], .row 904 [], .row 905 []]) rfl rfl (lt_ok rfl) rfl rfl rfl rfl rfl) ?_
 refine TL.cons rfl (Step.assign (p := (.one (.d (.int .i64 0)))) rfl rfl (lt_ok rfl) rfl) ?_
 refine TL.nil ?_
 refine T.seq ?_
 refine T.region ?_
 refine TL.cons rfl (Step.fieldAddr (q := 0) (off := 0) (n := 1) (one := true) rfl rfl (lt_ok rfl) (by kernel_rfl) (Nat.succ_ne_zero _) rfl) ?_
 refine TL.cons rfl (Step.load_box (c := .row 900 []) rfl rfl (lt_ok rfl) (by kernel_rfl) rfl rfl rfl) ?_
 refine TL.cons rfl (Step.move (p := (.one (.d (.int .i64 k)))) rfl rfl (lt_ok rfl) rfl) ?_
 have nn1 := cntL_nonneg SHead.ce_nn a.f0
 refine TL.cons rfl (Step.callM (f := 157) (xs := [.tmp 6, .tmp 7]) (ps := [(.one (.row 900 [])), (.one (.d (.int .i64 k)))]) (args := [.one (.mk (.sl 10 (a.f0.map SHead.cells)) (.sl 10 ((mkL SHead.ce SHead.me a.f0 k).map SHead.cells))), .one (.rd (.int .i64 k))]) (js := [(900, (.sl 10 ((mkL SHead.ce SHead.me a.f0 k).map SHead.cells)))]) (x := (.int .i64 (k + cntL SHead.ce a.f0))) (g := .func 157) rfl rfl (lt_ok rfl) rfl (by kernel_rfl) rfl rfl (.row (T := (Ts 0)) (d := (.sl 10 (a.f0.map SHead.cells))) (e' := (.sl 10 ((mkL SHead.ce SHead.me a.f0 k).map SHead.cells))) (d' := (.sl 10 ((mkL SHead.ce SHead.me a.f0 k).map SHead.cells))) rfl rfl rfl rfl rfl (by simp [D.size, mkL_length]) rfl rfl (.d .nil)) (ok_laws_markHeadS a.f0 k (by omega) (by first | omega | (have := SHead.cL_le (xs := a.f0) (by assumption); omega))) rfl) ?_
 refine TL.cons rfl (Step.assign (p := (.one (.d (.int .i64 (k + cntL SHead.ce a.f0))))) rfl rfl (lt_ok rfl) rfl) ?_
 refine TL.nil ?_
 refine T.seq ?_
 refine T.region ?_
 refine TL.cons rfl (Step.fieldAddr (q := 0) (off := 1) (n := 5) (one := false) rfl rfl (lt_ok rfl) (by kernel_rfl) (Nat.succ_ne_zero _) rfl) ?_
 refine TL.cons rfl (Step.load_box_agg (n := 5) (qs := [.d (.int .i64 a.f1.f0), .d (.int .i64 a.f1.f1), .row 903 [], .row 904 [], .row 905 []]) rfl rfl (lt_ok rfl) (by kernel_rfl) rfl rfl rfl rfl) ?_
 refine TL.cons rfl (Step.move (p := (.one (.d (.int .i64 (k + cntL SHead.ce a.f0))))) rfl rfl (lt_ok rfl) rfl) ?_
 have nn2 := SQc.cm_nn a.f1
 refine TL.cons rfl (Step.callM (f := 21) (xs := [.tmp 10, .tmp 11]) (ps := [(.agg [.d (.int .i64 a.f1.f0), .d (.int .i64 a.f1.f1), .row 903 [], .row 904 [], .row 905 []]), (.one (.d (.int .i64 (k + cntL SHead.ce a.f0))))]) (args := [.agg [.rd (.int .i64 a.f1.f0), .rd (.int .i64 a.f1.f1), .mk (.ints .u8 a.f1.f2) (.ints .u8 (mkB a.f1.f2 (k + cntL SHead.ce a.f0))), .mk (.ints .u8 a.f1.f3) (.ints .u8 (mkB a.f1.f3 ((k + cntL SHead.ce a.f0) + (a.f1.f2.length : Int)))), .mk (.bss a.f1.f4) (.bss (mkBs a.f1.f4 (((k + cntL SHead.ce a.f0) + (a.f1.f2.length : Int)) + (a.f1.f3.length : Int))))], .one (.rd (.int .i64 (k + cntL SHead.ce a.f0)))]) (js := [(903, (.ints .u8 (mkB a.f1.f2 (k + cntL SHead.ce a.f0)))), (904, (.ints .u8 (mkB a.f1.f3 ((k + cntL SHead.ce a.f0) + (a.f1.f2.length : Int))))), (905, (.bss (mkBs a.f1.f4 (((k + cntL SHead.ce a.f0) + (a.f1.f2.length : Int)) + (a.f1.f3.length : Int)))))]) (x := (.int .i64 ((k + cntL SHead.ce a.f0) + a.f1.cm))) (g := .func 21) rfl rfl (lt_ok rfl) rfl (by kernel_rfl) rfl rfl (.d (.d (.row (T := (Ts 3)) (d := (.ints .u8 a.f1.f2)) (e' := (.ints .u8 (mkB a.f1.f2 (k + cntL SHead.ce a.f0)))) (d' := (.ints .u8 (mkB a.f1.f2 (k + cntL SHead.ce a.f0)))) rfl rfl rfl rfl rfl (by simp [D.size, mkL_length]) rfl rfl (.row (T := (Ts 4)) (d := (.ints .u8 a.f1.f3)) (e' := (.ints .u8 (mkB a.f1.f3 ((k + cntL SHead.ce a.f0) + (a.f1.f2.length : Int))))) (d' := (.ints .u8 (mkB a.f1.f3 ((k + cntL SHead.ce a.f0) + (a.f1.f2.length : Int))))) rfl rfl rfl rfl rfl (by simp [D.size, mkL_length]) rfl rfl (.row (T := (Ts 5)) (d := (.bss a.f1.f4)) (e' := (.bss (mkBs a.f1.f4 (((k + cntL SHead.ce a.f0) + (a.f1.f2.length : Int)) + (a.f1.f3.length : Int))))) (d' := (.bss (mkBs a.f1.f4 (((k + cntL SHead.ce a.f0) + (a.f1.f2.length : Int)) + (a.f1.f3.length : Int))))) rfl rfl rfl rfl rfl (by simp [D.size, mkL_length]) rfl rfl (.d .nil)))))) (ok_laws_markQc a.f1 (k + cntL SHead.ce a.f0) (by omega) (by first | omega | (have := SQc.cm_le (x := a.f1) (by assumption); omega))) rfl) ?_
 refine TL.cons rfl (Step.assign (p := (.one (.d (.int .i64 ((k + cntL SHead.ce a.f0) + a.f1.cm))))) rfl rfl (lt_ok rfl) rfl) ?_
 refine TL.nil ?_
 refine T.seq ?_
 refine T.region ?_
 refine TL.cons rfl (Step.move (p := (.one (.d (.int .i64 ((k + cntL SHead.ce a.f0) + a.f1.cm))))) rfl rfl (lt_ok rfl) rfl) ?_
 refine TL.cons rfl (Step.assign (p := (.one (.d (.int .i64 ((k + cntL SHead.ce a.f0) + a.f1.cm))))) rfl rfl (lt_ok rfl) rfl) ?_
 refine TL.nil ?_
 refine T.ret ?_
 exact ⟨⟨⟨[(false, [.d (.int .i64 ((k + cntL SHead.ce a.f0) + a.f1.cm))])], (.cons rfl .nil), rfl, [], (RetC.rd' (by first | rfl | (congr 1; simp only [SProof.cm]; omega)) .nil)⟩, rfl⟩, (.mk' (by rfl) (.rd (.rd (.mk' (by rfl) (.mk' (by rfl) (.mk' (by rfl) (.rd .nil')))))))⟩
theorem ok_laws_markMsg (a : SMsg) (k : Int) (h0_ : 0 ≤ k) (h1_ : k + a.cm ≤ 4611686018427387904) : MK Try.prog 46 [.agg [.rd (.int .i64 a.f0), .rd (.int .i64 a.f1.f0), .rd (.int .i64 a.f1.f1), .mk (.ints .u8 a.f1.f2) (.ints .u8 (mkB a.f1.f2 k)), .rd (.int .i64 a.f1.f3), .mk (.ints .u8 a.f1.f4) (.ints .u8 (mkB a.f1.f4 (k + (a.f1.f2.length : Int)))), .rd (.int .i64 a.f2.f0), .rd (.int .i64 a.f2.f1), .mk (.ints .u8 a.f2.f2) (.ints .u8 (mkB a.f2.f2 (k + a.f1.cm))), .mk (.ints .u8 a.f2.f3) (.ints .u8 (mkB a.f2.f3 ((k + a.f1.cm) + (a.f2.f2.length : Int)))), .mk (.bss a.f2.f4) (.bss (mkBs a.f2.f4 (((k + a.f1.cm) + (a.f2.f2.length : Int)) + (a.f2.f3.length : Int)))), .rd (.int .i64 a.f3.f0), .rd (.int .i64 a.f3.f1), .rd (.int .i64 a.f3.f2), .mk (.ints .u8 a.f3.f3) (.ints .u8 (mkB a.f3.f3 ((k + a.f1.cm) + a.f2.cm))), .mk (.ints .u8 a.f3.f4) (.ints .u8 (mkB a.f3.f4 (((k + a.f1.cm) + a.f2.cm) + (a.f3.f3.length : Int)))), .rd (.int .i64 a.f3.f5.f0), .rd (.int .i64 a.f3.f5.f1), .mk (.ints .u8 a.f3.f5.f2) (.ints .u8 (mkB a.f3.f5.f2 ((((k + a.f1.cm) + a.f2.cm) + (a.f3.f3.length : Int)) + (a.f3.f4.length : Int)))), .mk (.ints .u8 a.f3.f5.f3) (.ints .u8 (mkB a.f3.f5.f3 (((((k + a.f1.cm) + a.f2.cm) + (a.f3.f3.length : Int)) + (a.f3.f4.length : Int)) + (a.f3.f5.f2.length : Int)))), .mk (.bss a.f3.f5.f4) (.bss (mkBs a.f3.f5.f4 ((((((k + a.f1.cm) + a.f2.cm) + (a.f3.f3.length : Int)) + (a.f3.f4.length : Int)) + (a.f3.f5.f2.length : Int)) + (a.f3.f5.f3.length : Int)))), .rd (.int .i64 a.f4.f0.f0), .rd (.int .i64 a.f4.f0.f1), .rd (.int .i64 a.f4.f0.f2), .mk (.ints .u8 a.f4.f0.f3) (.ints .u8 (mkB a.f4.f0.f3 (((k + a.f1.cm) + a.f2.cm) + a.f3.cm))), .mk (.ints .u8 a.f4.f0.f4) (.ints .u8 (mkB a.f4.f0.f4 ((((k + a.f1.cm) + a.f2.cm) + a.f3.cm) + (a.f4.f0.f3.length : Int)))), .rd (.int .i64 a.f4.f0.f5.f0), .rd (.int .i64 a.f4.f0.f5.f1), .mk (.ints .u8 a.f4.f0.f5.f2) (.ints .u8 (mkB a.f4.f0.f5.f2 (((((k + a.f1.cm) + a.f2.cm) + a.f3.cm) + (a.f4.f0.f3.length : Int)) + (a.f4.f0.f4.length : Int)))), .mk (.ints .u8 a.f4.f0.f5.f3) (.ints .u8 (mkB a.f4.f0.f5.f3 ((((((k + a.f1.cm) + a.f2.cm) + a.f3.cm) + (a.f4.f0.f3.length : Int)) + (a.f4.f0.f4.length : Int)) + (a.f4.f0.f5.f2.length : Int)))), .mk (.bss a.f4.f0.f5.f4) (.bss (mkBs a.f4.f0.f5.f4 (((((((k + a.f1.cm) + a.f2.cm) + a.f3.cm) + (a.f4.f0.f3.length : Int)) + (a.f4.f0.f4.length : Int)) + (a.f4.f0.f5.f2.length : Int)) + (a.f4.f0.f5.f3.length : Int)))), .mk (.bss a.f4.f1) (.bss (mkBs a.f4.f1 ((((k + a.f1.cm) + a.f2.cm) + a.f3.cm) + a.f4.f0.cm))), .rd (.int .i64 a.f5.f0), .mk (.sl 3 (a.f5.f1.map SEntry.cells)) (.sl 3 ((mkL SEntry.ce SEntry.me a.f5.f1 ((((k + a.f1.cm) + a.f2.cm) + a.f3.cm) + a.f4.cm)).map SEntry.cells)), .mk (.sl 10 (a.f6.f0.map SHead.cells)) (.sl 10 ((mkL SHead.ce SHead.me a.f6.f0 (((((k + a.f1.cm) + a.f2.cm) + a.f3.cm) + a.f4.cm) + a.f5.cm)).map SHead.cells)), .rd (.int .i64 a.f6.f1.f0), .rd (.int .i64 a.f6.f1.f1), .mk (.ints .u8 a.f6.f1.f2) (.ints .u8 (mkB a.f6.f1.f2 ((((((k + a.f1.cm) + a.f2.cm) + a.f3.cm) + a.f4.cm) + a.f5.cm) + cntL SHead.ce a.f6.f0))), .mk (.ints .u8 a.f6.f1.f3) (.ints .u8 (mkB a.f6.f1.f3 (((((((k + a.f1.cm) + a.f2.cm) + a.f3.cm) + a.f4.cm) + a.f5.cm) + cntL SHead.ce a.f6.f0) + (a.f6.f1.f2.length : Int)))), .mk (.bss a.f6.f1.f4) (.bss (mkBs a.f6.f1.f4 ((((((((k + a.f1.cm) + a.f2.cm) + a.f3.cm) + a.f4.cm) + a.f5.cm) + cntL SHead.ce a.f6.f0) + (a.f6.f1.f2.length : Int)) + (a.f6.f1.f3.length : Int)))), .rd (.int .i64 a.f7.f0), .rd (.int .i64 a.f7.f1), .rd (.int .i64 a.f7.f2), .mk (.ints .u8 a.f7.f3) (.ints .u8 (mkB a.f7.f3 ((((((k + a.f1.cm) + a.f2.cm) + a.f3.cm) + a.f4.cm) + a.f5.cm) + a.f6.cm))), .mk (.bss a.f7.f4) (.bss (mkBs a.f7.f4 (((((((k + a.f1.cm) + a.f2.cm) + a.f3.cm) + a.f4.cm) + a.f5.cm) + a.f6.cm) + (a.f7.f3.length : Int))))], .one (.rd (.int .i64 k))] [(false, [.rd (.int .i64 (k + a.cm))])] := by
 refine MK.intro Try.func46 rfl 34 rfl (le_ok rfl) (le_ok rfl) rfl fun w Z IX pin Ts hp => ?_
 have n1 := SVote.cm_nn a.f1
 have n2 := SQc.cm_nn a.f2
 have n3 := SHead.cm_nn a.f3
 have n4 := SBlock.cm_nn a.f4
 have n5 := STc.cm_nn a.f5
 have n6 := SProof.cm_nn a.f6
 have n7 := SIncl.cm_nn a.f7
 simp only [SMsg.cm] at h1_
 refine T.seq ?_
 refine T.region ?_
 refine TL.cons rfl (Step.box (p := (.agg [.d (.int .i64 a.f0), .d (.int .i64 a.f1.f0), .d (.int .i64 a.f1.f1), .row 903 [], .d (.int .i64 a.f1.f3), .row 905 [], .d (.int .i64 a.f2.f0), .d (.int .i64 a.f2.f1), .row 908 [], .row 909 [], .row 910 [], .d (.int .i64 a.f3.f0), .d (.int .i64 a.f3.f1), .d (.int .i64 a.f3.f2), .row 914 [], .row 915 [], .d (.int .i64 a.f3.f5.f0), .d (.int .i64 a.f3.f5.f1), .row 918 [], .row 919 [], .row 920 [], .d (.int .i64 a.f4.f0.f0), .d (.int .i64 a.f4.f0.f1), .d (.int .i64 a.f4.f0.f2), .row 924 [], .row 925 [], .d (.int .i64 a.f4.f0.f5.f0), .d (.int .i64 a.f4.f0.f5.f1), .row 928 [], .row 929 [], .row 930 [], .row 931 [], .d (.int .i64 a.f5.f0), .row 933 [], .row 934 [], .d (.int .i64 a.f6.f1.f0), .d (.int .i64 a.f6.f1.f1), .row 937 [], .row 938 [], .row 939 [], .d (.int .i64 a.f7.f0), .d (.int .i64 a.f7.f1), .d (.int .i64 a.f7.f2), .row 943 [], .row 944 []])) (ps := [.d (.int .i64 a.f0), .d (.int .i64 a.f1.f0), .d (.int .i64 a.f1.f1), .row 903 [], .d (.int .i64 a.f1.f3), .row 905 [], .d (.int .i64 a.f2.f0), .d (.int .i64 a.f2.f1), .row 908 [], .row 909 [], .row 910 [], .d (.int .i64 a.f3.f0), .d (.int .i64 a.f3.f1), .d (.int .i64 a.f3.f2), .row 914 [], .row 915 [], .d (.int .i64 a.f3.f5.f0), .d (.int .i64 a.f3.f5.f1), .row 918 [], .row 919 [], .row 920 [], .d (.int .i64 a.f4.f0.f0), .d (.int .i64 a.f4.f0.f1), .d (.int .i64 a.f4.f0.f2), .row 924 [], .row 925 [], .d (.int .i64 a.f4.f0.f5.f0), .d (.int .i64 a.f4.f0.f5.f1), .row 928 [], .row 929 [], .row 930 [], .row 931 [], .d (.int .i64 a.f5.f0), .row 933 [], .row 934 [], .d (.int .i64 a.f6.f1.f0), .d (.int .i64 a.f6.f1.f1), .row 937 [], .row 938 [], .row 939 [], .d (.int .i64 a.f7.f0), .d (.int .i64 a.f7.f1), .d (.int .i64 a.f7.f2), .row 943 [], .row 944 []]) rfl rfl (lt_ok rfl) rfl rfl rfl rfl rfl) ?_
 refine TL.cons rfl (Step.assign (p := (.one (.d (.int .i64 0)))) rfl rfl (lt_ok rfl) rfl) ?_
 refine TL.nil ?_
 refine T.seq ?_
 refine T.region ?_
 refine TL.cons rfl (Step.fieldAddr (q := 0) (off := 1) (n := 5) (one := false) rfl rfl (lt_ok rfl) (by kernel_rfl) (Nat.succ_ne_zero _) rfl) ?_
 refine TL.cons rfl (Step.load_box_agg (n := 5) (qs := [.d (.int .i64 a.f1.f0), .d (.int .i64 a.f1.f1), .row 903 [], .d (.int .i64 a.f1.f3), .row 905 []]) rfl rfl (lt_ok rfl) (by kernel_rfl) rfl rfl rfl rfl) ?_
 refine TL.cons rfl (Step.move (p := (.one (.d (.int .i64 k)))) rfl rfl (lt_ok rfl) rfl) ?_
 have nn1 := SVote.cm_nn a.f1
 refine TL.cons rfl (Step.callM (f := 45) (xs := [.tmp 6, .tmp 7]) (ps := [(.agg [.d (.int .i64 a.f1.f0), .d (.int .i64 a.f1.f1), .row 903 [], .d (.int .i64 a.f1.f3), .row 905 []]), (.one (.d (.int .i64 k)))]) (args := [.agg [.rd (.int .i64 a.f1.f0), .rd (.int .i64 a.f1.f1), .mk (.ints .u8 a.f1.f2) (.ints .u8 (mkB a.f1.f2 k)), .rd (.int .i64 a.f1.f3), .mk (.ints .u8 a.f1.f4) (.ints .u8 (mkB a.f1.f4 (k + (a.f1.f2.length : Int))))], .one (.rd (.int .i64 k))]) (js := [(903, (.ints .u8 (mkB a.f1.f2 k))), (905, (.ints .u8 (mkB a.f1.f4 (k + (a.f1.f2.length : Int)))))]) (x := (.int .i64 (k + a.f1.cm))) (g := .func 45) rfl rfl (lt_ok rfl) rfl (by kernel_rfl) rfl rfl (.d (.d (.row (T := (Ts 3)) (d := (.ints .u8 a.f1.f2)) (e' := (.ints .u8 (mkB a.f1.f2 k))) (d' := (.ints .u8 (mkB a.f1.f2 k))) rfl rfl rfl rfl rfl (by simp [D.size, mkL_length]) rfl rfl (.d (.row (T := (Ts 5)) (d := (.ints .u8 a.f1.f4)) (e' := (.ints .u8 (mkB a.f1.f4 (k + (a.f1.f2.length : Int))))) (d' := (.ints .u8 (mkB a.f1.f4 (k + (a.f1.f2.length : Int))))) rfl rfl rfl rfl rfl (by simp [D.size, mkL_length]) rfl rfl (.d .nil)))))) (ok_laws_markVote a.f1 k (by omega) (by first | omega | (have := SVote.cm_le (x := a.f1) (by assumption); omega))) rfl) ?_
 refine TL.cons rfl (Step.assign (p := (.one (.d (.int .i64 (k + a.f1.cm))))) rfl rfl (lt_ok rfl) rfl) ?_
 refine TL.nil ?_
 refine T.seq ?_
 refine T.region ?_
 refine TL.cons rfl (Step.fieldAddr (q := 0) (off := 6) (n := 5) (one := false) rfl rfl (lt_ok rfl) (by kernel_rfl) (Nat.succ_ne_zero _) rfl) ?_
 refine TL.cons rfl (Step.load_box_agg (n := 5) (qs := [.d (.int .i64 a.f2.f0), .d (.int .i64 a.f2.f1), .row 908 [], .row 909 [], .row 910 []]) rfl rfl (lt_ok rfl) (by kernel_rfl) rfl rfl rfl rfl) ?_
 refine TL.cons rfl (Step.move (p := (.one (.d (.int .i64 (k + a.f1.cm))))) rfl rfl (lt_ok rfl) rfl) ?_
 have nn2 := SQc.cm_nn a.f2
 refine TL.cons rfl (Step.callM (f := 21) (xs := [.tmp 10, .tmp 11]) (ps := [(.agg [.d (.int .i64 a.f2.f0), .d (.int .i64 a.f2.f1), .row 908 [], .row 909 [], .row 910 []]), (.one (.d (.int .i64 (k + a.f1.cm))))]) (args := [.agg [.rd (.int .i64 a.f2.f0), .rd (.int .i64 a.f2.f1), .mk (.ints .u8 a.f2.f2) (.ints .u8 (mkB a.f2.f2 (k + a.f1.cm))), .mk (.ints .u8 a.f2.f3) (.ints .u8 (mkB a.f2.f3 ((k + a.f1.cm) + (a.f2.f2.length : Int)))), .mk (.bss a.f2.f4) (.bss (mkBs a.f2.f4 (((k + a.f1.cm) + (a.f2.f2.length : Int)) + (a.f2.f3.length : Int))))], .one (.rd (.int .i64 (k + a.f1.cm)))]) (js := [(908, (.ints .u8 (mkB a.f2.f2 (k + a.f1.cm)))), (909, (.ints .u8 (mkB a.f2.f3 ((k + a.f1.cm) + (a.f2.f2.length : Int))))), (910, (.bss (mkBs a.f2.f4 (((k + a.f1.cm) + (a.f2.f2.length : Int)) + (a.f2.f3.length : Int)))))]) (x := (.int .i64 ((k + a.f1.cm) + a.f2.cm))) (g := .func 21) rfl rfl (lt_ok rfl) rfl (by kernel_rfl) rfl rfl (.d (.d (.row (T := (Ts 8)) (d := (.ints .u8 a.f2.f2)) (e' := (.ints .u8 (mkB a.f2.f2 (k + a.f1.cm)))) (d' := (.ints .u8 (mkB a.f2.f2 (k + a.f1.cm)))) rfl rfl rfl rfl rfl (by simp [D.size, mkL_length]) rfl rfl (.row (T := (Ts 9)) (d := (.ints .u8 a.f2.f3)) (e' := (.ints .u8 (mkB a.f2.f3 ((k + a.f1.cm) + (a.f2.f2.length : Int))))) (d' := (.ints .u8 (mkB a.f2.f3 ((k + a.f1.cm) + (a.f2.f2.length : Int))))) rfl rfl rfl rfl rfl (by simp [D.size, mkL_length]) rfl rfl (.row (T := (Ts 10)) (d := (.bss a.f2.f4)) (e' := (.bss (mkBs a.f2.f4 (((k + a.f1.cm) + (a.f2.f2.length : Int)) + (a.f2.f3.length : Int))))) (d' := (.bss (mkBs a.f2.f4 (((k + a.f1.cm) + (a.f2.f2.length : Int)) + (a.f2.f3.length : Int))))) rfl rfl rfl rfl rfl (by simp [D.size, mkL_length]) rfl rfl (.d .nil)))))) (ok_laws_markQc a.f2 (k + a.f1.cm) (by omega) (by first | omega | (have := SQc.cm_le (x := a.f2) (by assumption); omega))) rfl) ?_
 refine TL.cons rfl (Step.assign (p := (.one (.d (.int .i64 ((k + a.f1.cm) + a.f2.cm))))) rfl rfl (lt_ok rfl) rfl) ?_
 refine TL.nil ?_
 refine T.weaken (E' := { tm := [(1, (.one (.d (.int .i64 ((k + a.f1.cm) + a.f2.cm))))), (2, (.one (.ptr 2 0))), (4, (.one (.d (.int .i64 0))))], rows := [(903, ((Ts 3), (.ints .u8 (mkB a.f1.f2 k)))), (905, ((Ts 5), (.ints .u8 (mkB a.f1.f4 (k + (a.f1.f2.length : Int)))))), (908, ((Ts 8), (.ints .u8 (mkB a.f2.f2 (k + a.f1.cm))))), (909, ((Ts 9), (.ints .u8 (mkB a.f2.f3 ((k + a.f1.cm) + (a.f2.f2.length : Int)))))), (910, ((Ts 10), (.bss (mkBs a.f2.f4 (((k + a.f1.cm) + (a.f2.f2.length : Int)) + (a.f2.f3.length : Int)))))), (914, ((Ts 14), (.ints .u8 a.f3.f3))), (915, ((Ts 15), (.ints .u8 a.f3.f4))), (918, ((Ts 18), (.ints .u8 a.f3.f5.f2))), (919, ((Ts 19), (.ints .u8 a.f3.f5.f3))), (920, ((Ts 20), (.bss a.f3.f5.f4))), (924, ((Ts 24), (.ints .u8 a.f4.f0.f3))), (925, ((Ts 25), (.ints .u8 a.f4.f0.f4))), (928, ((Ts 28), (.ints .u8 a.f4.f0.f5.f2))), (929, ((Ts 29), (.ints .u8 a.f4.f0.f5.f3))), (930, ((Ts 30), (.bss a.f4.f0.f5.f4))), (931, ((Ts 31), (.bss a.f4.f1))), (933, ((Ts 33), (.sl 3 (a.f5.f1.map SEntry.cells)))), (934, ((Ts 34), (.sl 10 (a.f6.f0.map SHead.cells)))), (937, ((Ts 37), (.ints .u8 a.f6.f1.f2))), (938, ((Ts 38), (.ints .u8 a.f6.f1.f3))), (939, ((Ts 39), (.bss a.f6.f1.f4))), (943, ((Ts 43), (.ints .u8 a.f7.f3))), (944, ((Ts 44), (.bss a.f7.f4)))], boxes := [(2, (75, [.d (.int .i64 a.f0), .d (.int .i64 a.f1.f0), .d (.int .i64 a.f1.f1), .row 903 [], .d (.int .i64 a.f1.f3), .row 905 [], .d (.int .i64 a.f2.f0), .d (.int .i64 a.f2.f1), .row 908 [], .row 909 [], .row 910 [], .d (.int .i64 a.f3.f0), .d (.int .i64 a.f3.f1), .d (.int .i64 a.f3.f2), .row 914 [], .row 915 [], .d (.int .i64 a.f3.f5.f0), .d (.int .i64 a.f3.f5.f1), .row 918 [], .row 919 [], .row 920 [], .d (.int .i64 a.f4.f0.f0), .d (.int .i64 a.f4.f0.f1), .d (.int .i64 a.f4.f0.f2), .row 924 [], .row 925 [], .d (.int .i64 a.f4.f0.f5.f0), .d (.int .i64 a.f4.f0.f5.f1), .row 928 [], .row 929 [], .row 930 [], .row 931 [], .d (.int .i64 a.f5.f0), .row 933 [], .row 934 [], .d (.int .i64 a.f6.f1.f0), .d (.int .i64 a.f6.f1.f1), .row 937 [], .row 938 [], .row 939 [], .d (.int .i64 a.f7.f0), .d (.int .i64 a.f7.f1), .d (.int .i64 a.f7.f2), .row 943 [], .row 944 []]))] }) (Env.le_mk ⟨by kernel_rfl, by kernel_rfl, by kernel_rfl, trivial⟩ ⟨by kernel_rfl, by kernel_rfl, by kernel_rfl, by kernel_rfl, by kernel_rfl, by kernel_rfl, by kernel_rfl, by kernel_rfl, by kernel_rfl, by kernel_rfl, by kernel_rfl, by kernel_rfl, by kernel_rfl, by kernel_rfl, by kernel_rfl, by kernel_rfl, by kernel_rfl, by kernel_rfl, by kernel_rfl, by kernel_rfl, by kernel_rfl, by kernel_rfl, by kernel_rfl, trivial⟩ ⟨by kernel_rfl, trivial⟩) ?_
 refine T.seq ?_
 refine T.region ?_
 refine TL.cons rfl (Step.fieldAddr (q := 0) (off := 11) (n := 10) (one := false) rfl rfl (lt_ok rfl) (by kernel_rfl) (Nat.succ_ne_zero _) rfl) ?_
 refine TL.cons rfl (Step.load_box_agg (n := 10) (qs := [.d (.int .i64 a.f3.f0), .d (.int .i64 a.f3.f1), .d (.int .i64 a.f3.f2), .row 914 [], .row 915 [], .d (.int .i64 a.f3.f5.f0), .d (.int .i64 a.f3.f5.f1), .row 918 [], .row 919 [], .row 920 []]) rfl rfl (lt_ok rfl) (by kernel_rfl) rfl rfl rfl rfl) ?_
 refine TL.cons rfl (Step.move (p := (.one (.d (.int .i64 ((k + a.f1.cm) + a.f2.cm))))) rfl rfl (lt_ok rfl) rfl) ?_
 have nn3 := SHead.cm_nn a.f3
 refine TL.cons rfl (Step.callM (f := 66) (xs := [.tmp 14, .tmp 15]) (ps := [(.agg [.d (.int .i64 a.f3.f0), .d (.int .i64 a.f3.f1), .d (.int .i64 a.f3.f2), .row 914 [], .row 915 [], .d (.int .i64 a.f3.f5.f0), .d (.int .i64 a.f3.f5.f1), .row 918 [], .row 919 [], .row 920 []]), (.one (.d (.int .i64 ((k + a.f1.cm) + a.f2.cm))))]) (args := [.agg [.rd (.int .i64 a.f3.f0), .rd (.int .i64 a.f3.f1), .rd (.int .i64 a.f3.f2), .mk (.ints .u8 a.f3.f3) (.ints .u8 (mkB a.f3.f3 ((k + a.f1.cm) + a.f2.cm))), .mk (.ints .u8 a.f3.f4) (.ints .u8 (mkB a.f3.f4 (((k + a.f1.cm) + a.f2.cm) + (a.f3.f3.length : Int)))), .rd (.int .i64 a.f3.f5.f0), .rd (.int .i64 a.f3.f5.f1), .mk (.ints .u8 a.f3.f5.f2) (.ints .u8 (mkB a.f3.f5.f2 ((((k + a.f1.cm) + a.f2.cm) + (a.f3.f3.length : Int)) + (a.f3.f4.length : Int)))), .mk (.ints .u8 a.f3.f5.f3) (.ints .u8 (mkB a.f3.f5.f3 (((((k + a.f1.cm) + a.f2.cm) + (a.f3.f3.length : Int)) + (a.f3.f4.length : Int)) + (a.f3.f5.f2.length : Int)))), .mk (.bss a.f3.f5.f4) (.bss (mkBs a.f3.f5.f4 ((((((k + a.f1.cm) + a.f2.cm) + (a.f3.f3.length : Int)) + (a.f3.f4.length : Int)) + (a.f3.f5.f2.length : Int)) + (a.f3.f5.f3.length : Int))))], .one (.rd (.int .i64 ((k + a.f1.cm) + a.f2.cm)))]) (js := [(914, (.ints .u8 (mkB a.f3.f3 ((k + a.f1.cm) + a.f2.cm)))), (915, (.ints .u8 (mkB a.f3.f4 (((k + a.f1.cm) + a.f2.cm) + (a.f3.f3.length : Int))))), (918, (.ints .u8 (mkB a.f3.f5.f2 ((((k + a.f1.cm) + a.f2.cm) + (a.f3.f3.length : Int)) + (a.f3.f4.length : Int))))), (919, (.ints .u8 (mkB a.f3.f5.f3 (((((k + a.f1.cm) + a.f2.cm) + (a.f3.f3.length : Int)) + (a.f3.f4.length : Int)) + (a.f3.f5.f2.length : Int))))), (920, (.bss (mkBs a.f3.f5.f4 ((((((k + a.f1.cm) + a.f2.cm) + (a.f3.f3.length : Int)) + (a.f3.f4.length : Int)) + (a.f3.f5.f2.length : Int)) + (a.f3.f5.f3.length : Int)))))]) (x := (.int .i64 (((k + a.f1.cm) + a.f2.cm) + a.f3.cm))) (g := .func 66) rfl rfl (lt_ok rfl) rfl (by kernel_rfl) rfl rfl (.d (.d (.d (.row (T := (Ts 14)) (d := (.ints .u8 a.f3.f3)) (e' := (.ints .u8 (mkB a.f3.f3 ((k + a.f1.cm) + a.f2.cm)))) (d' := (.ints .u8 (mkB a.f3.f3 ((k + a.f1.cm) + a.f2.cm)))) rfl rfl rfl rfl rfl (by simp [D.size, mkL_length]) rfl rfl (.row (T := (Ts 15)) (d := (.ints .u8 a.f3.f4)) (e' := (.ints .u8 (mkB a.f3.f4 (((k + a.f1.cm) + a.f2.cm) + (a.f3.f3.length : Int))))) (d' := (.ints .u8 (mkB a.f3.f4 (((k + a.f1.cm) + a.f2.cm) + (a.f3.f3.length : Int))))) rfl rfl rfl rfl rfl (by simp [D.size, mkL_length]) rfl rfl (.d (.d (.row (T := (Ts 18)) (d := (.ints .u8 a.f3.f5.f2)) (e' := (.ints .u8 (mkB a.f3.f5.f2 ((((k + a.f1.cm) + a.f2.cm) + (a.f3.f3.length : Int)) + (a.f3.f4.length : Int))))) (d' := (.ints .u8 (mkB a.f3.f5.f2 ((((k + a.f1.cm) + a.f2.cm) + (a.f3.f3.length : Int)) + (a.f3.f4.length : Int))))) rfl rfl rfl rfl rfl (by simp [D.size, mkL_length]) rfl rfl (.row (T := (Ts 19)) (d := (.ints .u8 a.f3.f5.f3)) (e' := (.ints .u8 (mkB a.f3.f5.f3 (((((k + a.f1.cm) + a.f2.cm) + (a.f3.f3.length : Int)) + (a.f3.f4.length : Int)) + (a.f3.f5.f2.length : Int))))) (d' := (.ints .u8 (mkB a.f3.f5.f3 (((((k + a.f1.cm) + a.f2.cm) + (a.f3.f3.length : Int)) + (a.f3.f4.length : Int)) + (a.f3.f5.f2.length : Int))))) rfl rfl rfl rfl rfl (by simp [D.size, mkL_length]) rfl rfl (.row (T := (Ts 20)) (d := (.bss a.f3.f5.f4)) (e' := (.bss (mkBs a.f3.f5.f4 ((((((k + a.f1.cm) + a.f2.cm) + (a.f3.f3.length : Int)) + (a.f3.f4.length : Int)) + (a.f3.f5.f2.length : Int)) + (a.f3.f5.f3.length : Int))))) (d' := (.bss (mkBs a.f3.f5.f4 ((((((k + a.f1.cm) + a.f2.cm) + (a.f3.f3.length : Int)) + (a.f3.f4.length : Int)) + (a.f3.f5.f2.length : Int)) + (a.f3.f5.f3.length : Int))))) rfl rfl rfl rfl rfl (by simp [D.size, mkL_length]) rfl rfl (.d .nil))))))))))) (ok_laws_markHead a.f3 ((k + a.f1.cm) + a.f2.cm) (by omega) (by first | omega | (have := SHead.cm_le (x := a.f3) (by assumption); omega))) rfl) ?_
 refine TL.cons rfl (Step.assign (p := (.one (.d (.int .i64 (((k + a.f1.cm) + a.f2.cm) + a.f3.cm))))) rfl rfl (lt_ok rfl) rfl) ?_
 refine TL.nil ?_
 refine T.seq ?_
 refine T.region ?_
 refine TL.cons rfl (Step.fieldAddr (q := 0) (off := 21) (n := 11) (one := false) rfl rfl (lt_ok rfl) (by kernel_rfl) (Nat.succ_ne_zero _) rfl) ?_
 refine TL.cons rfl (Step.load_box_agg (n := 11) (qs := [.d (.int .i64 a.f4.f0.f0), .d (.int .i64 a.f4.f0.f1), .d (.int .i64 a.f4.f0.f2), .row 924 [], .row 925 [], .d (.int .i64 a.f4.f0.f5.f0), .d (.int .i64 a.f4.f0.f5.f1), .row 928 [], .row 929 [], .row 930 [], .row 931 []]) rfl rfl (lt_ok rfl) (by kernel_rfl) rfl rfl rfl rfl) ?_
 refine TL.cons rfl (Step.move (p := (.one (.d (.int .i64 (((k + a.f1.cm) + a.f2.cm) + a.f3.cm))))) rfl rfl (lt_ok rfl) rfl) ?_
 have nn4 := SBlock.cm_nn a.f4
 refine TL.cons rfl (Step.callM (f := 102) (xs := [.tmp 18, .tmp 19]) (ps := [(.agg [.d (.int .i64 a.f4.f0.f0), .d (.int .i64 a.f4.f0.f1), .d (.int .i64 a.f4.f0.f2), .row 924 [], .row 925 [], .d (.int .i64 a.f4.f0.f5.f0), .d (.int .i64 a.f4.f0.f5.f1), .row 928 [], .row 929 [], .row 930 [], .row 931 []]), (.one (.d (.int .i64 (((k + a.f1.cm) + a.f2.cm) + a.f3.cm))))]) (args := [.agg [.rd (.int .i64 a.f4.f0.f0), .rd (.int .i64 a.f4.f0.f1), .rd (.int .i64 a.f4.f0.f2), .mk (.ints .u8 a.f4.f0.f3) (.ints .u8 (mkB a.f4.f0.f3 (((k + a.f1.cm) + a.f2.cm) + a.f3.cm))), .mk (.ints .u8 a.f4.f0.f4) (.ints .u8 (mkB a.f4.f0.f4 ((((k + a.f1.cm) + a.f2.cm) + a.f3.cm) + (a.f4.f0.f3.length : Int)))), .rd (.int .i64 a.f4.f0.f5.f0), .rd (.int .i64 a.f4.f0.f5.f1), .mk (.ints .u8 a.f4.f0.f5.f2) (.ints .u8 (mkB a.f4.f0.f5.f2 (((((k + a.f1.cm) + a.f2.cm) + a.f3.cm) + (a.f4.f0.f3.length : Int)) + (a.f4.f0.f4.length : Int)))), .mk (.ints .u8 a.f4.f0.f5.f3) (.ints .u8 (mkB a.f4.f0.f5.f3 ((((((k + a.f1.cm) + a.f2.cm) + a.f3.cm) + (a.f4.f0.f3.length : Int)) + (a.f4.f0.f4.length : Int)) + (a.f4.f0.f5.f2.length : Int)))), .mk (.bss a.f4.f0.f5.f4) (.bss (mkBs a.f4.f0.f5.f4 (((((((k + a.f1.cm) + a.f2.cm) + a.f3.cm) + (a.f4.f0.f3.length : Int)) + (a.f4.f0.f4.length : Int)) + (a.f4.f0.f5.f2.length : Int)) + (a.f4.f0.f5.f3.length : Int)))), .mk (.bss a.f4.f1) (.bss (mkBs a.f4.f1 ((((k + a.f1.cm) + a.f2.cm) + a.f3.cm) + a.f4.f0.cm)))], .one (.rd (.int .i64 (((k + a.f1.cm) + a.f2.cm) + a.f3.cm)))]) (js := [(924, (.ints .u8 (mkB a.f4.f0.f3 (((k + a.f1.cm) + a.f2.cm) + a.f3.cm)))), (925, (.ints .u8 (mkB a.f4.f0.f4 ((((k + a.f1.cm) + a.f2.cm) + a.f3.cm) + (a.f4.f0.f3.length : Int))))), (928, (.ints .u8 (mkB a.f4.f0.f5.f2 (((((k + a.f1.cm) + a.f2.cm) + a.f3.cm) + (a.f4.f0.f3.length : Int)) + (a.f4.f0.f4.length : Int))))), (929, (.ints .u8 (mkB a.f4.f0.f5.f3 ((((((k + a.f1.cm) + a.f2.cm) + a.f3.cm) + (a.f4.f0.f3.length : Int)) + (a.f4.f0.f4.length : Int)) + (a.f4.f0.f5.f2.length : Int))))), (930, (.bss (mkBs a.f4.f0.f5.f4 (((((((k + a.f1.cm) + a.f2.cm) + a.f3.cm) + (a.f4.f0.f3.length : Int)) + (a.f4.f0.f4.length : Int)) + (a.f4.f0.f5.f2.length : Int)) + (a.f4.f0.f5.f3.length : Int))))), (931, (.bss (mkBs a.f4.f1 ((((k + a.f1.cm) + a.f2.cm) + a.f3.cm) + a.f4.f0.cm))))]) (x := (.int .i64 ((((k + a.f1.cm) + a.f2.cm) + a.f3.cm) + a.f4.cm))) (g := .func 102) rfl rfl (lt_ok rfl) rfl (by kernel_rfl) rfl rfl (.d (.d (.d (.row (T := (Ts 24)) (d := (.ints .u8 a.f4.f0.f3)) (e' := (.ints .u8 (mkB a.f4.f0.f3 (((k + a.f1.cm) + a.f2.cm) + a.f3.cm)))) (d' := (.ints .u8 (mkB a.f4.f0.f3 (((k + a.f1.cm) + a.f2.cm) + a.f3.cm)))) rfl rfl rfl rfl rfl (by simp [D.size, mkL_length]) rfl rfl (.row (T := (Ts 25)) (d := (.ints .u8 a.f4.f0.f4)) (e' := (.ints .u8 (mkB a.f4.f0.f4 ((((k + a.f1.cm) + a.f2.cm) + a.f3.cm) + (a.f4.f0.f3.length : Int))))) (d' := (.ints .u8 (mkB a.f4.f0.f4 ((((k + a.f1.cm) + a.f2.cm) + a.f3.cm) + (a.f4.f0.f3.length : Int))))) rfl rfl rfl rfl rfl (by simp [D.size, mkL_length]) rfl rfl (.d (.d (.row (T := (Ts 28)) (d := (.ints .u8 a.f4.f0.f5.f2)) (e' := (.ints .u8 (mkB a.f4.f0.f5.f2 (((((k + a.f1.cm) + a.f2.cm) + a.f3.cm) + (a.f4.f0.f3.length : Int)) + (a.f4.f0.f4.length : Int))))) (d' := (.ints .u8 (mkB a.f4.f0.f5.f2 (((((k + a.f1.cm) + a.f2.cm) + a.f3.cm) + (a.f4.f0.f3.length : Int)) + (a.f4.f0.f4.length : Int))))) rfl rfl rfl rfl rfl (by simp [D.size, mkL_length]) rfl rfl (.row (T := (Ts 29)) (d := (.ints .u8 a.f4.f0.f5.f3)) (e' := (.ints .u8 (mkB a.f4.f0.f5.f3 ((((((k + a.f1.cm) + a.f2.cm) + a.f3.cm) + (a.f4.f0.f3.length : Int)) + (a.f4.f0.f4.length : Int)) + (a.f4.f0.f5.f2.length : Int))))) (d' := (.ints .u8 (mkB a.f4.f0.f5.f3 ((((((k + a.f1.cm) + a.f2.cm) + a.f3.cm) + (a.f4.f0.f3.length : Int)) + (a.f4.f0.f4.length : Int)) + (a.f4.f0.f5.f2.length : Int))))) rfl rfl rfl rfl rfl (by simp [D.size, mkL_length]) rfl rfl (.row (T := (Ts 30)) (d := (.bss a.f4.f0.f5.f4)) (e' := (.bss (mkBs a.f4.f0.f5.f4 (((((((k + a.f1.cm) + a.f2.cm) + a.f3.cm) + (a.f4.f0.f3.length : Int)) + (a.f4.f0.f4.length : Int)) + (a.f4.f0.f5.f2.length : Int)) + (a.f4.f0.f5.f3.length : Int))))) (d' := (.bss (mkBs a.f4.f0.f5.f4 (((((((k + a.f1.cm) + a.f2.cm) + a.f3.cm) + (a.f4.f0.f3.length : Int)) + (a.f4.f0.f4.length : Int)) + (a.f4.f0.f5.f2.length : Int)) + (a.f4.f0.f5.f3.length : Int))))) rfl rfl rfl rfl rfl (by simp [D.size, mkL_length]) rfl rfl (.row (T := (Ts 31)) (d := (.bss a.f4.f1)) (e' := (.bss (mkBs a.f4.f1 ((((k + a.f1.cm) + a.f2.cm) + a.f3.cm) + a.f4.f0.cm)))) (d' := (.bss (mkBs a.f4.f1 ((((k + a.f1.cm) + a.f2.cm) + a.f3.cm) + a.f4.f0.cm)))) rfl rfl rfl rfl rfl (by simp [D.size, mkL_length]) rfl rfl (.d .nil)))))))))))) (ok_laws_markBlock a.f4 (((k + a.f1.cm) + a.f2.cm) + a.f3.cm) (by omega) (by first | omega | (have := SBlock.cm_le (x := a.f4) (by assumption); omega))) rfl) ?_
 refine TL.cons rfl (Step.assign (p := (.one (.d (.int .i64 ((((k + a.f1.cm) + a.f2.cm) + a.f3.cm) + a.f4.cm))))) rfl rfl (lt_ok rfl) rfl) ?_
 refine TL.nil ?_
 refine T.seq ?_
 refine T.region ?_
 refine TL.cons rfl (Step.fieldAddr (q := 0) (off := 32) (n := 2) (one := false) rfl rfl (lt_ok rfl) (by kernel_rfl) (Nat.succ_ne_zero _) rfl) ?_
 refine TL.cons rfl (Step.load_box_agg (n := 2) (qs := [.d (.int .i64 a.f5.f0), .row 933 []]) rfl rfl (lt_ok rfl) (by kernel_rfl) rfl rfl rfl rfl) ?_
 refine TL.cons rfl (Step.move (p := (.one (.d (.int .i64 ((((k + a.f1.cm) + a.f2.cm) + a.f3.cm) + a.f4.cm))))) rfl rfl (lt_ok rfl) rfl) ?_
 have nn5 := STc.cm_nn a.f5
 refine TL.cons rfl (Step.callM (f := 31) (xs := [.tmp 22, .tmp 23]) (ps := [(.agg [.d (.int .i64 a.f5.f0), .row 933 []]), (.one (.d (.int .i64 ((((k + a.f1.cm) + a.f2.cm) + a.f3.cm) + a.f4.cm))))]) (args := [.agg [.rd (.int .i64 a.f5.f0), .mk (.sl 3 (a.f5.f1.map SEntry.cells)) (.sl 3 ((mkL SEntry.ce SEntry.me a.f5.f1 ((((k + a.f1.cm) + a.f2.cm) + a.f3.cm) + a.f4.cm)).map SEntry.cells))], .one (.rd (.int .i64 ((((k + a.f1.cm) + a.f2.cm) + a.f3.cm) + a.f4.cm)))]) (js := [(933, (.sl 3 ((mkL SEntry.ce SEntry.me a.f5.f1 ((((k + a.f1.cm) + a.f2.cm) + a.f3.cm) + a.f4.cm)).map SEntry.cells)))]) (x := (.int .i64 (((((k + a.f1.cm) + a.f2.cm) + a.f3.cm) + a.f4.cm) + a.f5.cm))) (g := .func 31) rfl rfl (lt_ok rfl) rfl (by kernel_rfl) rfl rfl (.d (.row (T := (Ts 33)) (d := (.sl 3 (a.f5.f1.map SEntry.cells))) (e' := (.sl 3 ((mkL SEntry.ce SEntry.me a.f5.f1 ((((k + a.f1.cm) + a.f2.cm) + a.f3.cm) + a.f4.cm)).map SEntry.cells))) (d' := (.sl 3 ((mkL SEntry.ce SEntry.me a.f5.f1 ((((k + a.f1.cm) + a.f2.cm) + a.f3.cm) + a.f4.cm)).map SEntry.cells))) rfl rfl rfl rfl rfl (by simp [D.size, mkL_length]) rfl rfl (.d .nil))) (ok_laws_markTc a.f5 ((((k + a.f1.cm) + a.f2.cm) + a.f3.cm) + a.f4.cm) (by omega) (by first | omega | (have := STc.cm_le (x := a.f5) (by assumption); omega))) rfl) ?_
 refine TL.cons rfl (Step.assign (p := (.one (.d (.int .i64 (((((k + a.f1.cm) + a.f2.cm) + a.f3.cm) + a.f4.cm) + a.f5.cm))))) rfl rfl (lt_ok rfl) rfl) ?_
 refine TL.nil ?_
 refine T.seq ?_
 refine T.region ?_
 refine TL.cons rfl (Step.fieldAddr (q := 0) (off := 34) (n := 6) (one := false) rfl rfl (lt_ok rfl) (by kernel_rfl) (Nat.succ_ne_zero _) rfl) ?_
 refine TL.cons rfl (Step.load_box_agg (n := 6) (qs := [.row 934 [], .d (.int .i64 a.f6.f1.f0), .d (.int .i64 a.f6.f1.f1), .row 937 [], .row 938 [], .row 939 []]) rfl rfl (lt_ok rfl) (by kernel_rfl) rfl rfl rfl rfl) ?_
 refine TL.cons rfl (Step.move (p := (.one (.d (.int .i64 (((((k + a.f1.cm) + a.f2.cm) + a.f3.cm) + a.f4.cm) + a.f5.cm))))) rfl rfl (lt_ok rfl) rfl) ?_
 have nn6 := SProof.cm_nn a.f6
 refine TL.cons rfl (Step.callM (f := 103) (xs := [.tmp 26, .tmp 27]) (ps := [(.agg [.row 934 [], .d (.int .i64 a.f6.f1.f0), .d (.int .i64 a.f6.f1.f1), .row 937 [], .row 938 [], .row 939 []]), (.one (.d (.int .i64 (((((k + a.f1.cm) + a.f2.cm) + a.f3.cm) + a.f4.cm) + a.f5.cm))))]) (args := [.agg [.mk (.sl 10 (a.f6.f0.map SHead.cells)) (.sl 10 ((mkL SHead.ce SHead.me a.f6.f0 (((((k + a.f1.cm) + a.f2.cm) + a.f3.cm) + a.f4.cm) + a.f5.cm)).map SHead.cells)), .rd (.int .i64 a.f6.f1.f0), .rd (.int .i64 a.f6.f1.f1), .mk (.ints .u8 a.f6.f1.f2) (.ints .u8 (mkB a.f6.f1.f2 ((((((k + a.f1.cm) + a.f2.cm) + a.f3.cm) + a.f4.cm) + a.f5.cm) + cntL SHead.ce a.f6.f0))), .mk (.ints .u8 a.f6.f1.f3) (.ints .u8 (mkB a.f6.f1.f3 (((((((k + a.f1.cm) + a.f2.cm) + a.f3.cm) + a.f4.cm) + a.f5.cm) + cntL SHead.ce a.f6.f0) + (a.f6.f1.f2.length : Int)))), .mk (.bss a.f6.f1.f4) (.bss (mkBs a.f6.f1.f4 ((((((((k + a.f1.cm) + a.f2.cm) + a.f3.cm) + a.f4.cm) + a.f5.cm) + cntL SHead.ce a.f6.f0) + (a.f6.f1.f2.length : Int)) + (a.f6.f1.f3.length : Int))))], .one (.rd (.int .i64 (((((k + a.f1.cm) + a.f2.cm) + a.f3.cm) + a.f4.cm) + a.f5.cm)))]) (js := [(934, (.sl 10 ((mkL SHead.ce SHead.me a.f6.f0 (((((k + a.f1.cm) + a.f2.cm) + a.f3.cm) + a.f4.cm) + a.f5.cm)).map SHead.cells))), (937, (.ints .u8 (mkB a.f6.f1.f2 ((((((k + a.f1.cm) + a.f2.cm) + a.f3.cm) + a.f4.cm) + a.f5.cm) + cntL SHead.ce a.f6.f0)))), (938, (.ints .u8 (mkB a.f6.f1.f3 (((((((k + a.f1.cm) + a.f2.cm) + a.f3.cm) + a.f4.cm) + a.f5.cm) + cntL SHead.ce a.f6.f0) + (a.f6.f1.f2.length : Int))))), (939, (.bss (mkBs a.f6.f1.f4 ((((((((k + a.f1.cm) + a.f2.cm) + a.f3.cm) + a.f4.cm) + a.f5.cm) + cntL SHead.ce a.f6.f0) + (a.f6.f1.f2.length : Int)) + (a.f6.f1.f3.length : Int)))))]) (x := (.int .i64 ((((((k + a.f1.cm) + a.f2.cm) + a.f3.cm) + a.f4.cm) + a.f5.cm) + a.f6.cm))) (g := .func 103) rfl rfl (lt_ok rfl) rfl (by kernel_rfl) rfl rfl (.row (T := (Ts 34)) (d := (.sl 10 (a.f6.f0.map SHead.cells))) (e' := (.sl 10 ((mkL SHead.ce SHead.me a.f6.f0 (((((k + a.f1.cm) + a.f2.cm) + a.f3.cm) + a.f4.cm) + a.f5.cm)).map SHead.cells))) (d' := (.sl 10 ((mkL SHead.ce SHead.me a.f6.f0 (((((k + a.f1.cm) + a.f2.cm) + a.f3.cm) + a.f4.cm) + a.f5.cm)).map SHead.cells))) rfl rfl rfl rfl rfl (by simp [D.size, mkL_length]) rfl rfl (.d (.d (.row (T := (Ts 37)) (d := (.ints .u8 a.f6.f1.f2)) (e' := (.ints .u8 (mkB a.f6.f1.f2 ((((((k + a.f1.cm) + a.f2.cm) + a.f3.cm) + a.f4.cm) + a.f5.cm) + cntL SHead.ce a.f6.f0)))) (d' := (.ints .u8 (mkB a.f6.f1.f2 ((((((k + a.f1.cm) + a.f2.cm) + a.f3.cm) + a.f4.cm) + a.f5.cm) + cntL SHead.ce a.f6.f0)))) rfl rfl rfl rfl rfl (by simp [D.size, mkL_length]) rfl rfl (.row (T := (Ts 38)) (d := (.ints .u8 a.f6.f1.f3)) (e' := (.ints .u8 (mkB a.f6.f1.f3 (((((((k + a.f1.cm) + a.f2.cm) + a.f3.cm) + a.f4.cm) + a.f5.cm) + cntL SHead.ce a.f6.f0) + (a.f6.f1.f2.length : Int))))) (d' := (.ints .u8 (mkB a.f6.f1.f3 (((((((k + a.f1.cm) + a.f2.cm) + a.f3.cm) + a.f4.cm) + a.f5.cm) + cntL SHead.ce a.f6.f0) + (a.f6.f1.f2.length : Int))))) rfl rfl rfl rfl rfl (by simp [D.size, mkL_length]) rfl rfl (.row (T := (Ts 39)) (d := (.bss a.f6.f1.f4)) (e' := (.bss (mkBs a.f6.f1.f4 ((((((((k + a.f1.cm) + a.f2.cm) + a.f3.cm) + a.f4.cm) + a.f5.cm) + cntL SHead.ce a.f6.f0) + (a.f6.f1.f2.length : Int)) + (a.f6.f1.f3.length : Int))))) (d' := (.bss (mkBs a.f6.f1.f4 ((((((((k + a.f1.cm) + a.f2.cm) + a.f3.cm) + a.f4.cm) + a.f5.cm) + cntL SHead.ce a.f6.f0) + (a.f6.f1.f2.length : Int)) + (a.f6.f1.f3.length : Int))))) rfl rfl rfl rfl rfl (by simp [D.size, mkL_length]) rfl rfl (.d .nil))))))) (ok_laws_markProof a.f6 (((((k + a.f1.cm) + a.f2.cm) + a.f3.cm) + a.f4.cm) + a.f5.cm) (by omega) (by first | omega | (have := SProof.cm_le (x := a.f6) (by assumption); omega))) rfl) ?_
 refine TL.cons rfl (Step.assign (p := (.one (.d (.int .i64 ((((((k + a.f1.cm) + a.f2.cm) + a.f3.cm) + a.f4.cm) + a.f5.cm) + a.f6.cm))))) rfl rfl (lt_ok rfl) rfl) ?_
 refine TL.nil ?_
 refine T.seq ?_
 refine T.region ?_
 refine TL.cons rfl (Step.fieldAddr (q := 0) (off := 40) (n := 5) (one := false) rfl rfl (lt_ok rfl) (by kernel_rfl) (Nat.succ_ne_zero _) rfl) ?_
 refine TL.cons rfl (Step.load_box_agg (n := 5) (qs := [.d (.int .i64 a.f7.f0), .d (.int .i64 a.f7.f1), .d (.int .i64 a.f7.f2), .row 943 [], .row 944 []]) rfl rfl (lt_ok rfl) (by kernel_rfl) rfl rfl rfl rfl) ?_
 refine TL.cons rfl (Step.move (p := (.one (.d (.int .i64 ((((((k + a.f1.cm) + a.f2.cm) + a.f3.cm) + a.f4.cm) + a.f5.cm) + a.f6.cm))))) rfl rfl (lt_ok rfl) rfl) ?_
 have nn7 := SIncl.cm_nn a.f7
 refine TL.cons rfl (Step.callM (f := 58) (xs := [.tmp 30, .tmp 31]) (ps := [(.agg [.d (.int .i64 a.f7.f0), .d (.int .i64 a.f7.f1), .d (.int .i64 a.f7.f2), .row 943 [], .row 944 []]), (.one (.d (.int .i64 ((((((k + a.f1.cm) + a.f2.cm) + a.f3.cm) + a.f4.cm) + a.f5.cm) + a.f6.cm))))]) (args := [.agg [.rd (.int .i64 a.f7.f0), .rd (.int .i64 a.f7.f1), .rd (.int .i64 a.f7.f2), .mk (.ints .u8 a.f7.f3) (.ints .u8 (mkB a.f7.f3 ((((((k + a.f1.cm) + a.f2.cm) + a.f3.cm) + a.f4.cm) + a.f5.cm) + a.f6.cm))), .mk (.bss a.f7.f4) (.bss (mkBs a.f7.f4 (((((((k + a.f1.cm) + a.f2.cm) + a.f3.cm) + a.f4.cm) + a.f5.cm) + a.f6.cm) + (a.f7.f3.length : Int))))], .one (.rd (.int .i64 ((((((k + a.f1.cm) + a.f2.cm) + a.f3.cm) + a.f4.cm) + a.f5.cm) + a.f6.cm)))]) (js := [(943, (.ints .u8 (mkB a.f7.f3 ((((((k + a.f1.cm) + a.f2.cm) + a.f3.cm) + a.f4.cm) + a.f5.cm) + a.f6.cm)))), (944, (.bss (mkBs a.f7.f4 (((((((k + a.f1.cm) + a.f2.cm) + a.f3.cm) + a.f4.cm) + a.f5.cm) + a.f6.cm) + (a.f7.f3.length : Int)))))]) (x := (.int .i64 (((((((k + a.f1.cm) + a.f2.cm) + a.f3.cm) + a.f4.cm) + a.f5.cm) + a.f6.cm) + a.f7.cm))) (g := .func 58) rfl rfl (lt_ok rfl) rfl (by kernel_rfl) rfl rfl (.d (.d (.d (.row (T := (Ts 43)) (d := (.ints .u8 a.f7.f3)) (e' := (.ints .u8 (mkB a.f7.f3 ((((((k + a.f1.cm) + a.f2.cm) + a.f3.cm) + a.f4.cm) + a.f5.cm) + a.f6.cm)))) (d' := (.ints .u8 (mkB a.f7.f3 ((((((k + a.f1.cm) + a.f2.cm) + a.f3.cm) + a.f4.cm) + a.f5.cm) + a.f6.cm)))) rfl rfl rfl rfl rfl (by simp [D.size, mkL_length]) rfl rfl (.row (T := (Ts 44)) (d := (.bss a.f7.f4)) (e' := (.bss (mkBs a.f7.f4 (((((((k + a.f1.cm) + a.f2.cm) + a.f3.cm) + a.f4.cm) + a.f5.cm) + a.f6.cm) + (a.f7.f3.length : Int))))) (d' := (.bss (mkBs a.f7.f4 (((((((k + a.f1.cm) + a.f2.cm) + a.f3.cm) + a.f4.cm) + a.f5.cm) + a.f6.cm) + (a.f7.f3.length : Int))))) rfl rfl rfl rfl rfl (by simp [D.size, mkL_length]) rfl rfl (.d .nil)))))) (ok_laws_markIncl a.f7 ((((((k + a.f1.cm) + a.f2.cm) + a.f3.cm) + a.f4.cm) + a.f5.cm) + a.f6.cm) (by omega) (by first | omega | (have := SIncl.cm_le (x := a.f7) (by assumption); omega))) rfl) ?_
 refine TL.cons rfl (Step.assign (p := (.one (.d (.int .i64 (((((((k + a.f1.cm) + a.f2.cm) + a.f3.cm) + a.f4.cm) + a.f5.cm) + a.f6.cm) + a.f7.cm))))) rfl rfl (lt_ok rfl) rfl) ?_
 refine TL.nil ?_
 refine T.seq ?_
 refine T.region ?_
 refine TL.cons rfl (Step.move (p := (.one (.d (.int .i64 (((((((k + a.f1.cm) + a.f2.cm) + a.f3.cm) + a.f4.cm) + a.f5.cm) + a.f6.cm) + a.f7.cm))))) rfl rfl (lt_ok rfl) rfl) ?_
 refine TL.cons rfl (Step.assign (p := (.one (.d (.int .i64 (((((((k + a.f1.cm) + a.f2.cm) + a.f3.cm) + a.f4.cm) + a.f5.cm) + a.f6.cm) + a.f7.cm))))) rfl rfl (lt_ok rfl) rfl) ?_
 refine TL.nil ?_
 refine T.ret ?_
 exact ⟨⟨⟨[(false, [.d (.int .i64 (((((((k + a.f1.cm) + a.f2.cm) + a.f3.cm) + a.f4.cm) + a.f5.cm) + a.f6.cm) + a.f7.cm))])], (.cons rfl .nil), rfl, [], (RetC.rd' (by first | rfl | (congr 1; simp only [SMsg.cm]; omega)) .nil)⟩, rfl⟩, (.rd (.rd (.rd (.mk' (by rfl) (.rd (.mk' (by rfl) (.rd (.rd (.mk' (by rfl) (.mk' (by rfl) (.mk' (by rfl) (.rd (.rd (.rd (.mk' (by rfl) (.mk' (by rfl) (.rd (.rd (.mk' (by rfl) (.mk' (by rfl) (.mk' (by rfl) (.rd (.rd (.rd (.mk' (by rfl) (.mk' (by rfl) (.rd (.rd (.mk' (by rfl) (.mk' (by rfl) (.mk' (by rfl) (.mk' (by rfl) (.rd (.mk' (by rfl) (.mk' (by rfl) (.rd (.rd (.mk' (by rfl) (.mk' (by rfl) (.mk' (by rfl) (.rd (.rd (.rd (.mk' (by rfl) (.mk' (by rfl) (.rd .nil'))))))))))))))))))))))))))))))))))))))))))))))⟩
theorem ok_laws_heldByteS (a : List Int) (b : List Int) (k : Int) (h0_ : 0 ≤ k) (h1_ : k + (a.length : Int) ≤ 4611686018427387904) (h2_ : b = mkB a k) : RO Try.prog 33 [.one (.ints .u8 b), .one (.int .i64 k)] [(false, [.rd (.int .i64 (k + (a.length : Int)))])] := by
 refine RO.intro Try.func33 rfl 22 rfl (le_ok rfl) fun w Z => ?_
 refine T.bnd 0 0 rfl rfl fun hb_0_0 => ?_
 simp only [D.size, List.length_map] at hb_0_0
 have hl_ : b.length = a.length := by rw [h2_, mkL_length]
 have hg_ : ∀ i, i < a.length → b.getD i 0 = (k + (i : Int)) % 256 := fun i hi => by rw [h2_, mkL_getD _ _ _ _ hi]; simp only [cntL_one_take a i (by omega)]
 refine T.seq ?_
 refine T.region ?_
 refine TL.cons rfl (Step.assign (p := (.one (.d (.int .i64 0)))) rfl rfl (lt_ok rfl) rfl) ?_
 refine TL.nil ?_
 refine T.seq ?_
 refine T.seq ?_
 refine T.region ?_
 refine TL.cons rfl (Step.assign (p := (.one (.d (.int .i64 0)))) rfl rfl (lt_ok rfl) rfl) ?_
 refine TL.nil ?_
 refine T.block ?_
 refine T.loop (ι := Nat) (fun x => { tm := [(0, (.one (.d (.ints .u8 b)))), (5, (.one (.d (.int .i64 (x : Int))))), (1, (.one (.d (.int .i64 (k + (x : Int))))))], rows := [], boxes := [] }) (fun x => x ≤ a.length) (fun x => a.length - x) 0 ?_ ?_ ?_
 · exact Env.le_mk ⟨rfl, by first | rfl | (refine congrArg (fun n => PV.one (.d (.int .i64 n))) ?_; first | omega | (simp; done) | (simp [cntL]; done)), by first | rfl | (refine congrArg (fun n => PV.one (.d (.int .i64 n))) ?_; first | omega | (simp; done) | (simp [cntL]; done)), trivial⟩ trivial trivial
 · exact Nat.zero_le _
 ·
  intro i hx
  try dsimp only at hx ⊢
  refine T.seq ?_
  refine T.seq ?_
  refine T.region ?_
  refine TL.cons rfl (Step.move (p := (.one (.d (.int .i64 (i : Int))))) rfl rfl (lt_ok rfl) rfl) ?_
  refine TL.cons rfl (Step.move (p := (.one (.d (.ints .u8 b)))) rfl rfl (lt_ok rfl) rfl) ?_
  refine TL.cons rfl (Step.len (e := 5) (z := 1) (d := (.ints .u8 b)) rfl rfl (lt_ok rfl) (by kernel_rfl) rfl rfl) ?_
  refine TL.cons rfl (Step.bin rfl rfl (lt_ok rfl) rfl rfl (Bin.lss (k := .i64) (a := (i : Int)) (b := (b.length : Int)))) ?_
  refine TL.nil ?_
  refine T.cond (b := decide ((i : Int) < (b.length : Int))) rfl (fun h1 => ?_) (fun h1 => ?_)
  ·
   replace h1 := of_decide_eq_true h1
   refine T.skip ?_
   refine T.seq ?_
   refine T.block ?_
   refine T.seq ?_
   refine T.seq ?_
   refine T.region ?_
   refine TL.cons rfl (Step.move (p := (.one (.d (.ints .u8 b)))) rfl rfl (lt_ok rfl) rfl) ?_
   refine TL.cons rfl (Step.move (p := (.one (.d (.int .i64 (i : Int))))) rfl rfl (lt_ok rfl) rfl) ?_
   refine TL.cons rfl (Step.index (e := 5) (z := 1) (i := (i : Int)) rfl rfl (lt_ok rfl) (by kernel_rfl) rfl rfl rfl (lt_ok rfl) rfl (by first | omega | (simp; omega)) (by simp only [D.size]; first | omega | (simp; omega))) ?_
   refine TL.cons rfl (Step.load (e := (.int .u8 (b.getD i 0))) rfl rfl (lt_ok rfl) (by kernel_rfl) rfl rfl) ?_
   refine TL.cons rfl (Step.move (p := (.one (.d (.int .i64 (k + (i : Int)))))) rfl rfl (lt_ok rfl) rfl) ?_
   refine TL.cons rfl (Step.conv (c := ((k + (i : Int)) % 256)) rfl rfl (lt_ok rfl) (by kernel_rfl) (by kernel_rfl) rfl (wrap_byte _)) ?_
   refine TL.cons rfl (Step.bin rfl rfl (lt_ok rfl) rfl rfl (Bin.neq (k := .u8) (a := (b.getD i 0)) (b := ((k + (i : Int)) % 256)))) ?_
   refine TL.nil ?_
   refine T.cond (b := decide ((b.getD i 0) ≠ ((k + (i : Int)) % 256))) rfl (fun h2 => ?_) (fun h2 => ?_)
   ·
    replace h2 := of_decide_eq_true h2
    refine T.seq ?_
    refine T.region ?_
    refine TL.cons rfl (Step.assign (p := (.one (.d (.int .i64 (-1))))) rfl rfl (lt_ok rfl) rfl) ?_
    refine TL.nil ?_
    refine T.ret ?_
    exact ⟨[(false, [.d (.int .i64 (-1))])], (.cons rfl .nil), rfl, [], (RetC.rd' (by first | (congr 1; omega) | (exfalso; have := hg_ i (by omega); omega)) .nil)⟩
   ·
    replace h2 := of_decide_eq_false h2
    refine T.skip ?_
    refine T.region ?_
    refine TL.cons rfl (Step.move (p := (.one (.d (.int .i64 (k + (i : Int)))))) rfl rfl (lt_ok rfl) rfl) ?_
    refine TL.cons rfl (Step.bin (r := .int .i64 ((k + (i : Int)) + 1)) rfl rfl (lt_ok rfl) rfl rfl (Bin.add (a := (k + (i : Int))) (b := 1) (by first | exact wrap_ok (by first | omega | (simp; omega)) (by first | omega | (simp; omega)) | rfl))) ?_
    refine TL.cons rfl (Step.assign (p := (.one (.d (.int .i64 ((k + (i : Int)) + 1))))) rfl rfl (lt_ok rfl) rfl) ?_
    refine TL.nil ?_
    refine T.region ?_
    refine TL.cons rfl (Step.move (p := (.one (.d (.int .i64 (i : Int))))) rfl rfl (lt_ok rfl) rfl) ?_
    refine TL.cons rfl (Step.bin (r := .int .i64 ((i : Int) + 1)) rfl rfl (lt_ok rfl) rfl rfl (Bin.add (a := (i : Int)) (b := 1) (by first | exact wrap_ok (by first | omega | (simp; omega)) (by first | omega | (simp; omega)) | rfl))) ?_
    refine TL.cons rfl (Step.assign (p := (.one (.d (.int .i64 ((i : Int) + 1))))) rfl rfl (lt_ok rfl) rfl) ?_
    refine TL.nil ?_
    exact ⟨i + 1, by omega, by first | omega | (dsimp only; omega), Env.le_mk ⟨rfl, by first | rfl | (refine congrArg (fun n => PV.one (.d (.int .i64 n))) ?_; first | omega | (simp; done) | (simp [cntL]; done)), by first | rfl | (refine congrArg (fun n => PV.one (.d (.int .i64 n))) ?_; first | omega | (simp; done) | (simp [cntL]; done)), trivial⟩ trivial trivial⟩
  ·
   replace h1 := of_decide_eq_false h1
   refine T.exit ?_
   refine T.seq ?_
   refine T.region ?_
   refine TL.cons rfl (Step.move (p := (.one (.d (.int .i64 (k + (i : Int)))))) rfl rfl (lt_ok rfl) rfl) ?_
   refine TL.cons rfl (Step.assign (p := (.one (.d (.int .i64 (k + (i : Int)))))) rfl rfl (lt_ok rfl) rfl) ?_
   refine TL.nil ?_
   refine T.ret ?_
   exact ⟨[(false, [.d (.int .i64 (k + (i : Int)))])], (.cons rfl .nil), rfl, [], (RetC.rd' (by first | (congr 1; omega) | (exfalso; have := hg_ i (by omega); omega)) .nil)⟩
theorem ok_laws_heldByteSS (a : List (List Int)) (b : List (List Int)) (k : Int) (h0_ : 0 ≤ k) (h1_ : k + cntL (fun x : List Int => (x.length : Int)) a ≤ 4611686018427387904) (h2_ : b = mkBs a k) : RO Try.prog 99 [.one (.bss b), .one (.int .i64 k)] [(false, [.rd (.int .i64 (k + cntL (fun x : List Int => (x.length : Int)) a))])] := by
 refine RO.intro Try.func99 rfl 21 rfl (le_ok rfl) fun w Z => ?_
 refine T.bnd 0 0 rfl rfl fun hb_0_0 => ?_
 simp only [D.size, List.length_map] at hb_0_0
 have hl_ : b.length = a.length := by rw [h2_, mkL_length]
 have hg_ : ∀ i, i < a.length → b.getD i [] = mkB (a.getD i []) (k + cntL (fun x : List Int => (x.length : Int)) (a.take i)) := fun i hi => by rw [h2_, mkL_getD _ _ _ _ hi]
 refine T.seq ?_
 refine T.region ?_
 refine TL.cons rfl (Step.assign (p := (.one (.d (.int .i64 0)))) rfl rfl (lt_ok rfl) rfl) ?_
 refine TL.nil ?_
 refine T.seq ?_
 refine T.seq ?_
 refine T.region ?_
 refine TL.cons rfl (Step.assign (p := (.one (.d (.int .i64 0)))) rfl rfl (lt_ok rfl) rfl) ?_
 refine TL.nil ?_
 refine T.block ?_
 refine T.loop (ι := Nat) (fun x => { tm := [(0, (.one (.d (.bss b)))), (5, (.one (.d (.int .i64 (x : Int))))), (1, (.one (.d (.int .i64 (k + cntL (fun x : List Int => (x.length : Int)) (a.take x))))))], rows := [], boxes := [] }) (fun x => x ≤ a.length) (fun x => a.length - x) 0 ?_ ?_ ?_
 · exact Env.le_mk ⟨rfl, by first | rfl | (refine congrArg (fun n => PV.one (.d (.int .i64 n))) ?_; first | omega | (simp; done) | (simp [cntL]; done)), by first | rfl | (refine congrArg (fun n => PV.one (.d (.int .i64 n))) ?_; first | omega | (simp; done) | (simp [cntL]; done)), trivial⟩ trivial trivial
 · exact Nat.zero_le _
 ·
  intro i hx
  try dsimp only at hx ⊢
  refine T.seq ?_
  refine T.seq ?_
  refine T.region ?_
  refine TL.cons rfl (Step.move (p := (.one (.d (.int .i64 (i : Int))))) rfl rfl (lt_ok rfl) rfl) ?_
  refine TL.cons rfl (Step.move (p := (.one (.d (.bss b)))) rfl rfl (lt_ok rfl) rfl) ?_
  refine TL.cons rfl (Step.len (e := 22) (z := 1) (d := (.bss b)) rfl rfl (lt_ok rfl) (by kernel_rfl) rfl rfl) ?_
  refine TL.cons rfl (Step.bin rfl rfl (lt_ok rfl) rfl rfl (Bin.lss (k := .i64) (a := (i : Int)) (b := (b.length : Int)))) ?_
  refine TL.nil ?_
  refine T.cond (b := decide ((i : Int) < (b.length : Int))) rfl (fun h1 => ?_) (fun h1 => ?_)
  ·
   replace h1 := of_decide_eq_true h1
   have hc1 := cntL_take_le (cnt := (fun x : List Int => (x.length : Int))) (fun x => by omega) a (i + 1)
   have hc2 := cntL_take_succ (cnt := (fun x : List Int => (x.length : Int))) (i := i) [] (show i < a.length by omega)
   have hc3 := cntL_nonneg (cnt := (fun x : List Int => (x.length : Int))) (fun x => by omega) (a.take i)
   have he_ := hg_ i (by omega)
   try dsimp only at hc2
   refine T.skip ?_
   refine T.seq ?_
   refine T.block ?_
   refine T.seq ?_
   refine T.region ?_
   refine TL.cons rfl (Step.move (p := (.one (.d (.bss b)))) rfl rfl (lt_ok rfl) rfl) ?_
   refine TL.cons rfl (Step.move (p := (.one (.d (.int .i64 (i : Int))))) rfl rfl (lt_ok rfl) rfl) ?_
   refine TL.cons rfl (Step.index (e := 22) (z := 1) (i := (i : Int)) rfl rfl (lt_ok rfl) (by kernel_rfl) rfl rfl rfl (lt_ok rfl) rfl (by first | omega | (simp; omega)) (by simp only [D.size]; first | omega | (simp; omega))) ?_
   refine TL.cons rfl (Step.load (e := (.ints .u8 (b.getD i []))) rfl rfl (lt_ok rfl) (by kernel_rfl) rfl rfl) ?_
   refine TL.cons rfl (Step.move (p := (.one (.d (.int .i64 (k + cntL (fun x : List Int => (x.length : Int)) (a.take i)))))) rfl rfl (lt_ok rfl) rfl) ?_
   refine TL.cons rfl (Step.call (f := 33) (xs := [.tmp 15, .tmp 16]) (ps := [(.one (.d (.ints .u8 (b.getD i [])))), (.one (.d (.int .i64 (k + cntL (fun x : List Int => (x.length : Int)) (a.take i)))))]) false (g := .func 33) rfl rfl (lt_ok rfl) rfl (by kernel_rfl) rfl (.cons (.one (.d _)) (.cons (.one (.d _)) .nil)) (ok_laws_heldByteS (a.getD i []) (b.getD i []) (k + cntL (fun x : List Int => (x.length : Int)) (a.take i)) (by omega) (by first | omega | (have := (by assumption); omega)) (by first | rfl | assumption | (repeat' (first | rfl | apply And.intro)))) (.inr rfl) rfl (by simp) rfl) ?_
   refine TL.cons rfl (Step.assign (p := (.one (.d (.int .i64 ((k + cntL (fun x : List Int => (x.length : Int)) (a.take i)) + ((a.getD i []).length : Int)))))) rfl rfl (lt_ok rfl) rfl) ?_
   refine TL.nil ?_
   refine T.seq ?_
   refine T.region ?_
   refine TL.cons rfl (Step.move (p := (.one (.d (.int .i64 ((k + cntL (fun x : List Int => (x.length : Int)) (a.take i)) + ((a.getD i []).length : Int)))))) rfl rfl (lt_ok rfl) rfl) ?_
   refine TL.cons rfl (Step.bin rfl rfl (lt_ok rfl) rfl rfl (Bin.lss (k := .i64) (a := ((k + cntL (fun x : List Int => (x.length : Int)) (a.take i)) + ((a.getD i []).length : Int))) (b := 0))) ?_
   refine TL.known 19 (c := false) (decide_eq_false (by omega)) rfl ?_
   refine TL.nil ?_
   refine T.cond (b := false) rfl (fun h2_ => absurd h2_ (by simp)) (fun h2_ => ?_)
   refine T.skip ?_
   refine T.region ?_
   refine TL.cons rfl (Step.move (p := (.one (.d (.int .i64 (i : Int))))) rfl rfl (lt_ok rfl) rfl) ?_
   refine TL.cons rfl (Step.bin (r := .int .i64 ((i : Int) + 1)) rfl rfl (lt_ok rfl) rfl rfl (Bin.add (a := (i : Int)) (b := 1) (by first | exact wrap_ok (by first | omega | (simp; omega)) (by first | omega | (simp; omega)) | rfl))) ?_
   refine TL.cons rfl (Step.assign (p := (.one (.d (.int .i64 ((i : Int) + 1))))) rfl rfl (lt_ok rfl) rfl) ?_
   refine TL.nil ?_
   exact ⟨i + 1, by omega, by first | omega | (dsimp only; omega), Env.le_mk ⟨rfl, by first | rfl | (refine congrArg (fun n => PV.one (.d (.int .i64 n))) ?_; first | omega | (simp; done) | (simp [cntL]; done)), by first | rfl | (refine congrArg (fun n => PV.one (.d (.int .i64 n))) ?_; first | omega | (simp; done) | (simp [cntL]; done)), trivial⟩ trivial trivial⟩
  ·
   replace h1 := of_decide_eq_false h1
   refine T.exit ?_
   refine T.seq ?_
   refine T.region ?_
   refine TL.cons rfl (Step.move (p := (.one (.d (.int .i64 (k + cntL (fun x : List Int => (x.length : Int)) (a.take i)))))) rfl rfl (lt_ok rfl) rfl) ?_
   refine TL.cons rfl (Step.assign (p := (.one (.d (.int .i64 (k + cntL (fun x : List Int => (x.length : Int)) (a.take i)))))) rfl rfl (lt_ok rfl) rfl) ?_
   refine TL.nil ?_
   refine T.ret ?_
   exact ⟨[(false, [.d (.int .i64 (k + cntL (fun x : List Int => (x.length : Int)) (a.take i)))])], (.cons rfl .nil), rfl, [], (RetC.rd' (by first | (congr 1; rw [cntL_all (by omega)]) | (exfalso; omega)) .nil)⟩
theorem ok_laws_heldQc (a : SQc) (b : SQc) (k : Int) (h0_ : 0 ≤ k) (h1_ : k + a.cm ≤ 4611686018427387904) (h2_ : SQc.hm a b k) : RO Try.prog 38 [.agg b.cells, .one (.int .i64 k)] [(false, [.rd (.int .i64 (k + a.cm))])] := by
 refine RO.intro Try.func38 rfl 24 rfl (le_ok rfl) fun w Z => ?_
 obtain ⟨p2, p3, p4⟩ := h2_
 have n4 := cntBs_nonneg a.f4
 simp only [SQc.cm] at h1_
 refine T.seq ?_
 refine T.region ?_
 refine TL.cons rfl (Step.box (p := (.agg [.d (.int .i64 b.f0), .d (.int .i64 b.f1), .d (.ints .u8 b.f2), .d (.ints .u8 b.f3), .d (.bss b.f4)])) (ps := [.d (.int .i64 b.f0), .d (.int .i64 b.f1), .d (.ints .u8 b.f2), .d (.ints .u8 b.f3), .d (.bss b.f4)]) rfl rfl (lt_ok rfl) rfl rfl rfl rfl rfl) ?_
 refine TL.cons rfl (Step.assign (p := (.one (.d (.int .i64 0)))) rfl rfl (lt_ok rfl) rfl) ?_
 refine TL.nil ?_
 refine T.seq ?_
 refine T.region ?_
 refine TL.cons rfl (Step.fieldAddr (q := 0) (off := 2) (n := 1) (one := true) rfl rfl (lt_ok rfl) (by kernel_rfl) (Nat.succ_ne_zero _) rfl) ?_
 refine TL.cons rfl (Step.load_box (c := .d (.ints .u8 b.f2)) rfl rfl (lt_ok rfl) (by kernel_rfl) rfl rfl rfl) ?_
 refine TL.cons rfl (Step.move (p := (.one (.d (.int .i64 k)))) rfl rfl (lt_ok rfl) rfl) ?_
 refine TL.cons rfl (Step.call (f := 33) (xs := [.tmp 6, .tmp 7]) (ps := [(.one (.d (.ints .u8 b.f2))), (.one (.d (.int .i64 k)))]) false (g := .func 33) rfl rfl (lt_ok rfl) rfl (by kernel_rfl) rfl (.cons (.one (.d _)) (.cons (.one (.d _)) .nil)) (ok_laws_heldByteS a.f2 b.f2 k (by omega) (by first | omega | (have := (by assumption); omega)) (by first | rfl | assumption | (repeat' (first | rfl | apply And.intro)))) (.inr rfl) rfl (by simp) rfl) ?_
 refine TL.cons rfl (Step.assign (p := (.one (.d (.int .i64 (k + (a.f2.length : Int)))))) rfl rfl (lt_ok rfl) rfl) ?_
 refine TL.nil ?_
 refine T.seq ?_
 refine T.seq ?_
 refine T.region ?_
 refine TL.cons rfl (Step.move (p := (.one (.d (.int .i64 (k + (a.f2.length : Int)))))) rfl rfl (lt_ok rfl) rfl) ?_
 refine TL.cons rfl (Step.bin rfl rfl (lt_ok rfl) rfl rfl (Bin.lss (k := .i64) (a := (k + (a.f2.length : Int))) (b := 0))) ?_
 refine TL.known 10 (c := false) (decide_eq_false (by omega)) rfl ?_
 refine TL.nil ?_
 refine T.cond (b := false) rfl (fun h1_ => absurd h1_ (by simp)) (fun h1_ => ?_)
 refine T.skip ?_
 refine T.seq ?_
 refine T.region ?_
 refine TL.cons rfl (Step.fieldAddr (q := 0) (off := 3) (n := 1) (one := true) rfl rfl (lt_ok rfl) (by kernel_rfl) (Nat.succ_ne_zero _) rfl) ?_
 refine TL.cons rfl (Step.load_box (c := .d (.ints .u8 b.f3)) rfl rfl (lt_ok rfl) (by kernel_rfl) rfl rfl rfl) ?_
 refine TL.cons rfl (Step.move (p := (.one (.d (.int .i64 (k + (a.f2.length : Int)))))) rfl rfl (lt_ok rfl) rfl) ?_
 refine TL.cons rfl (Step.call (f := 33) (xs := [.tmp 12, .tmp 13]) (ps := [(.one (.d (.ints .u8 b.f3))), (.one (.d (.int .i64 (k + (a.f2.length : Int)))))]) false (g := .func 33) rfl rfl (lt_ok rfl) rfl (by kernel_rfl) rfl (.cons (.one (.d _)) (.cons (.one (.d _)) .nil)) (ok_laws_heldByteS a.f3 b.f3 (k + (a.f2.length : Int)) (by omega) (by first | omega | (have := (by assumption); omega)) (by first | rfl | assumption | (repeat' (first | rfl | apply And.intro)))) (.inr rfl) rfl (by simp) rfl) ?_
 refine TL.cons rfl (Step.assign (p := (.one (.d (.int .i64 ((k + (a.f2.length : Int)) + (a.f3.length : Int)))))) rfl rfl (lt_ok rfl) rfl) ?_
 refine TL.nil ?_
 refine T.seq ?_
 refine T.seq ?_
 refine T.region ?_
 refine TL.cons rfl (Step.move (p := (.one (.d (.int .i64 ((k + (a.f2.length : Int)) + (a.f3.length : Int)))))) rfl rfl (lt_ok rfl) rfl) ?_
 refine TL.cons rfl (Step.bin rfl rfl (lt_ok rfl) rfl rfl (Bin.lss (k := .i64) (a := ((k + (a.f2.length : Int)) + (a.f3.length : Int))) (b := 0))) ?_
 refine TL.known 16 (c := false) (decide_eq_false (by omega)) rfl ?_
 refine TL.nil ?_
 refine T.cond (b := false) rfl (fun h2_ => absurd h2_ (by simp)) (fun h2_ => ?_)
 refine T.skip ?_
 refine T.seq ?_
 refine T.region ?_
 refine TL.cons rfl (Step.fieldAddr (q := 0) (off := 4) (n := 1) (one := true) rfl rfl (lt_ok rfl) (by kernel_rfl) (Nat.succ_ne_zero _) rfl) ?_
 refine TL.cons rfl (Step.load_box (c := .d (.bss b.f4)) rfl rfl (lt_ok rfl) (by kernel_rfl) rfl rfl rfl) ?_
 refine TL.cons rfl (Step.move (p := (.one (.d (.int .i64 ((k + (a.f2.length : Int)) + (a.f3.length : Int)))))) rfl rfl (lt_ok rfl) rfl) ?_
 have nn3 := cntBs_nonneg a.f4
 refine TL.cons rfl (Step.call (f := 99) (xs := [.tmp 18, .tmp 19]) (ps := [(.one (.d (.bss b.f4))), (.one (.d (.int .i64 ((k + (a.f2.length : Int)) + (a.f3.length : Int)))))]) false (g := .func 99) rfl rfl (lt_ok rfl) rfl (by kernel_rfl) rfl (.cons (.one (.d _)) (.cons (.one (.d _)) .nil)) (ok_laws_heldByteSS a.f4 b.f4 ((k + (a.f2.length : Int)) + (a.f3.length : Int)) (by omega) (by first | omega | (have := cntBs_le (xs := a.f4) (by assumption); omega)) (by first | rfl | assumption | (repeat' (first | rfl | apply And.intro)))) (.inr rfl) rfl (by simp) rfl) ?_
 refine TL.cons rfl (Step.assign (p := (.one (.d (.int .i64 (((k + (a.f2.length : Int)) + (a.f3.length : Int)) + cntL (fun x : List Int => (x.length : Int)) a.f4))))) rfl rfl (lt_ok rfl) rfl) ?_
 refine TL.nil ?_
 refine T.seq ?_
 refine T.seq ?_
 refine T.region ?_
 refine TL.cons rfl (Step.move (p := (.one (.d (.int .i64 (((k + (a.f2.length : Int)) + (a.f3.length : Int)) + cntL (fun x : List Int => (x.length : Int)) a.f4))))) rfl rfl (lt_ok rfl) rfl) ?_
 refine TL.cons rfl (Step.bin rfl rfl (lt_ok rfl) rfl rfl (Bin.lss (k := .i64) (a := (((k + (a.f2.length : Int)) + (a.f3.length : Int)) + cntL (fun x : List Int => (x.length : Int)) a.f4)) (b := 0))) ?_
 refine TL.known 22 (c := false) (decide_eq_false (by omega)) rfl ?_
 refine TL.nil ?_
 refine T.cond (b := false) rfl (fun h4_ => absurd h4_ (by simp)) (fun h4_ => ?_)
 refine T.skip ?_
 refine T.seq ?_
 refine T.region ?_
 refine TL.cons rfl (Step.move (p := (.one (.d (.int .i64 (((k + (a.f2.length : Int)) + (a.f3.length : Int)) + cntL (fun x : List Int => (x.length : Int)) a.f4))))) rfl rfl (lt_ok rfl) rfl) ?_
 refine TL.cons rfl (Step.assign (p := (.one (.d (.int .i64 (((k + (a.f2.length : Int)) + (a.f3.length : Int)) + cntL (fun x : List Int => (x.length : Int)) a.f4))))) rfl rfl (lt_ok rfl) rfl) ?_
 refine TL.nil ?_
 refine T.ret ?_
 exact ⟨[(false, [.d (.int .i64 (((k + (a.f2.length : Int)) + (a.f3.length : Int)) + cntL (fun x : List Int => (x.length : Int)) a.f4))])], (.cons rfl .nil), rfl, [], (RetC.rd' (by first | rfl | (congr 1; simp only [SQc.cm]; omega)) .nil)⟩
theorem ok_laws_heldVote (a : SVote) (b : SVote) (k : Int) (h0_ : 0 ≤ k) (h1_ : k + a.cm ≤ 4611686018427387904) (h2_ : SVote.hm a b k) : RO Try.prog 69 [.agg b.cells, .one (.int .i64 k)] [(false, [.rd (.int .i64 (k + a.cm))])] := by
 refine RO.intro Try.func69 rfl 18 rfl (le_ok rfl) fun w Z => ?_
 obtain ⟨p2, p4⟩ := h2_
 simp only [SVote.cm] at h1_
 refine T.seq ?_
 refine T.region ?_
 refine TL.cons rfl (Step.box (p := (.agg [.d (.int .i64 b.f0), .d (.int .i64 b.f1), .d (.ints .u8 b.f2), .d (.int .i64 b.f3), .d (.ints .u8 b.f4)])) (ps := [.d (.int .i64 b.f0), .d (.int .i64 b.f1), .d (.ints .u8 b.f2), .d (.int .i64 b.f3), .d (.ints .u8 b.f4)]) rfl rfl (lt_ok rfl) rfl rfl rfl rfl rfl) ?_
 refine TL.cons rfl (Step.assign (p := (.one (.d (.int .i64 0)))) rfl rfl (lt_ok rfl) rfl) ?_
 refine TL.nil ?_
 refine T.seq ?_
 refine T.region ?_
 refine TL.cons rfl (Step.fieldAddr (q := 0) (off := 2) (n := 1) (one := true) rfl rfl (lt_ok rfl) (by kernel_rfl) (Nat.succ_ne_zero _) rfl) ?_
 refine TL.cons rfl (Step.load_box (c := .d (.ints .u8 b.f2)) rfl rfl (lt_ok rfl) (by kernel_rfl) rfl rfl rfl) ?_
 refine TL.cons rfl (Step.move (p := (.one (.d (.int .i64 k)))) rfl rfl (lt_ok rfl) rfl) ?_
 refine TL.cons rfl (Step.call (f := 33) (xs := [.tmp 6, .tmp 7]) (ps := [(.one (.d (.ints .u8 b.f2))), (.one (.d (.int .i64 k)))]) false (g := .func 33) rfl rfl (lt_ok rfl) rfl (by kernel_rfl) rfl (.cons (.one (.d _)) (.cons (.one (.d _)) .nil)) (ok_laws_heldByteS a.f2 b.f2 k (by omega) (by first | omega | (have := (by assumption); omega)) (by first | rfl | assumption | (repeat' (first | rfl | apply And.intro)))) (.inr rfl) rfl (by simp) rfl) ?_
 refine TL.cons rfl (Step.assign (p := (.one (.d (.int .i64 (k + (a.f2.length : Int)))))) rfl rfl (lt_ok rfl) rfl) ?_
 refine TL.nil ?_
 refine T.seq ?_
 refine T.seq ?_
 refine T.region ?_
 refine TL.cons rfl (Step.move (p := (.one (.d (.int .i64 (k + (a.f2.length : Int)))))) rfl rfl (lt_ok rfl) rfl) ?_
 refine TL.cons rfl (Step.bin rfl rfl (lt_ok rfl) rfl rfl (Bin.lss (k := .i64) (a := (k + (a.f2.length : Int))) (b := 0))) ?_
 refine TL.known 10 (c := false) (decide_eq_false (by omega)) rfl ?_
 refine TL.nil ?_
 refine T.cond (b := false) rfl (fun h1_ => absurd h1_ (by simp)) (fun h1_ => ?_)
 refine T.skip ?_
 refine T.seq ?_
 refine T.region ?_
 refine TL.cons rfl (Step.fieldAddr (q := 0) (off := 4) (n := 1) (one := true) rfl rfl (lt_ok rfl) (by kernel_rfl) (Nat.succ_ne_zero _) rfl) ?_
 refine TL.cons rfl (Step.load_box (c := .d (.ints .u8 b.f4)) rfl rfl (lt_ok rfl) (by kernel_rfl) rfl rfl rfl) ?_
 refine TL.cons rfl (Step.move (p := (.one (.d (.int .i64 (k + (a.f2.length : Int)))))) rfl rfl (lt_ok rfl) rfl) ?_
 refine TL.cons rfl (Step.call (f := 33) (xs := [.tmp 12, .tmp 13]) (ps := [(.one (.d (.ints .u8 b.f4))), (.one (.d (.int .i64 (k + (a.f2.length : Int)))))]) false (g := .func 33) rfl rfl (lt_ok rfl) rfl (by kernel_rfl) rfl (.cons (.one (.d _)) (.cons (.one (.d _)) .nil)) (ok_laws_heldByteS a.f4 b.f4 (k + (a.f2.length : Int)) (by omega) (by first | omega | (have := (by assumption); omega)) (by first | rfl | assumption | (repeat' (first | rfl | apply And.intro)))) (.inr rfl) rfl (by simp) rfl) ?_
 refine TL.cons rfl (Step.assign (p := (.one (.d (.int .i64 ((k + (a.f2.length : Int)) + (a.f4.length : Int)))))) rfl rfl (lt_ok rfl) rfl) ?_
 refine TL.nil ?_
 refine T.seq ?_
 refine T.seq ?_
 refine T.region ?_
 refine TL.cons rfl (Step.move (p := (.one (.d (.int .i64 ((k + (a.f2.length : Int)) + (a.f4.length : Int)))))) rfl rfl (lt_ok rfl) rfl) ?_
 refine TL.cons rfl (Step.bin rfl rfl (lt_ok rfl) rfl rfl (Bin.lss (k := .i64) (a := ((k + (a.f2.length : Int)) + (a.f4.length : Int))) (b := 0))) ?_
 refine TL.known 16 (c := false) (decide_eq_false (by omega)) rfl ?_
 refine TL.nil ?_
 refine T.cond (b := false) rfl (fun h2_ => absurd h2_ (by simp)) (fun h2_ => ?_)
 refine T.skip ?_
 refine T.seq ?_
 refine T.region ?_
 refine TL.cons rfl (Step.move (p := (.one (.d (.int .i64 ((k + (a.f2.length : Int)) + (a.f4.length : Int)))))) rfl rfl (lt_ok rfl) rfl) ?_
 refine TL.cons rfl (Step.assign (p := (.one (.d (.int .i64 ((k + (a.f2.length : Int)) + (a.f4.length : Int)))))) rfl rfl (lt_ok rfl) rfl) ?_
 refine TL.nil ?_
 refine T.ret ?_
 exact ⟨[(false, [.d (.int .i64 ((k + (a.f2.length : Int)) + (a.f4.length : Int)))])], (.cons rfl .nil), rfl, [], (RetC.rd' (by first | rfl | (congr 1; simp only [SVote.cm]; omega)) .nil)⟩
theorem ok_laws_heldEntryS (a : List SEntry) (b : List SEntry) (k : Int) (h0_ : 0 ≤ k) (h1_ : k + cntL SEntry.ce a ≤ 4611686018427387904) (h2_ : b = mkL SEntry.ce SEntry.me a k) : RO Try.prog 129 [.one (.sl 3 (b.map SEntry.cells)), .one (.int .i64 k)] [(false, [.rd (.int .i64 (k + cntL SEntry.ce a))])] := by
 refine RO.intro Try.func129 rfl 40 rfl (le_ok rfl) fun w Z => ?_
 refine T.bnd 0 0 rfl rfl fun hb_0_0 => ?_
 simp only [D.size, List.length_map] at hb_0_0
 have hl_ : b.length = a.length := by rw [h2_, mkL_length]
 have hg_ : ∀ i, i < a.length → b.getD i default = SEntry.me (a.getD i default) (k + cntL SEntry.ce (a.take i)) := fun i hi => by rw [h2_, mkL_getD _ _ _ _ hi]
 refine T.seq ?_
 refine T.region ?_
 refine TL.cons rfl (Step.assign (p := (.one (.d (.int .i64 0)))) rfl rfl (lt_ok rfl) rfl) ?_
 refine TL.nil ?_
 refine T.seq ?_
 refine T.seq ?_
 refine T.region ?_
 refine TL.cons rfl (Step.assign (p := (.one (.d (.int .i64 0)))) rfl rfl (lt_ok rfl) rfl) ?_
 refine TL.nil ?_
 refine T.block ?_
 refine T.loop (ι := Nat) (fun x => { tm := [(0, (.one (.d (.sl 3 (b.map SEntry.cells))))), (5, (.one (.d (.int .i64 (x : Int))))), (1, (.one (.d (.int .i64 (k + cntL SEntry.ce (a.take x))))))], rows := [], boxes := [] }) (fun x => x ≤ a.length) (fun x => a.length - x) 0 ?_ ?_ ?_
 · exact Env.le_mk ⟨rfl, by first | rfl | (refine congrArg (fun n => PV.one (.d (.int .i64 n))) ?_; first | omega | (simp; done) | (simp [cntL]; done)), by first | rfl | (refine congrArg (fun n => PV.one (.d (.int .i64 n))) ?_; first | omega | (simp; done) | (simp [cntL]; done)), trivial⟩ trivial trivial
 · exact Nat.zero_le _
 ·
  intro i hx
  try dsimp only at hx ⊢
  refine T.seq ?_
  refine T.seq ?_
  refine T.region ?_
  refine TL.cons rfl (Step.move (p := (.one (.d (.int .i64 (i : Int))))) rfl rfl (lt_ok rfl) rfl) ?_
  refine TL.cons rfl (Step.move (p := (.one (.d (.sl 3 (b.map SEntry.cells))))) rfl rfl (lt_ok rfl) rfl) ?_
  refine TL.cons rfl (Step.len' (e := 121) (z := 3) (d := (.sl 3 (b.map SEntry.cells))) (n := b.length) rfl rfl (lt_ok rfl) (by kernel_rfl) rfl rfl (by simp [D.size])) ?_
  refine TL.cons rfl (Step.bin rfl rfl (lt_ok rfl) rfl rfl (Bin.lss (k := .i64) (a := (i : Int)) (b := (b.length : Int)))) ?_
  refine TL.nil ?_
  refine T.cond (b := decide ((i : Int) < (b.length : Int))) rfl (fun h1 => ?_) (fun h1 => ?_)
  ·
   replace h1 := of_decide_eq_true h1
   have hc1 := cntL_take_le (cnt := SEntry.ce) SEntry.ce_nn a (i + 1)
   have hc2 := cntL_take_succ (cnt := SEntry.ce) (i := i) default (show i < a.length by omega)
   have hc3 := cntL_nonneg (cnt := SEntry.ce) SEntry.ce_nn (a.take i)
   have he_ := hg_ i (by omega)
   have hc4 : SEntry.ce (a.getD i default) = 1 + 1 + ((a.getD i default).f2.length : Int) := rfl
   have he0 : (b.getD i default).f0 = k + cntL SEntry.ce (a.take i) := by rw [he_]; rfl
   have he1 : (b.getD i default).f1 = (k + cntL SEntry.ce (a.take i)) + 1 := by rw [he_]; rfl
   have he2 : (b.getD i default).f2 = mkB (a.getD i default).f2 (((k + cntL SEntry.ce (a.take i)) + 1) + 1) := by rw [he_]; rfl
   refine T.skip ?_
   refine T.seq ?_
   refine T.block ?_
   refine T.seq ?_
   refine T.seq ?_
   refine T.region ?_
   refine TL.cons rfl (Step.move (p := (.one (.d (.sl 3 (b.map SEntry.cells))))) rfl rfl (lt_ok rfl) rfl) ?_
   refine TL.cons rfl (Step.move (p := (.one (.d (.int .i64 (i : Int))))) rfl rfl (lt_ok rfl) rfl) ?_
   refine TL.cons rfl (Step.index (e := 121) (z := 3) (i := (i : Int)) rfl rfl (lt_ok rfl) (by kernel_rfl) rfl rfl rfl (lt_ok rfl) rfl (by first | omega | (simp; omega)) (by simp only [D.size]; first | omega | (simp; omega))) ?_
   refine TL.cons rfl (Step.fieldAddr_e (j := 0) (off := 0) (n := 1) (one := true) rfl rfl (lt_ok rfl) (by kernel_rfl) (Nat.succ_ne_zero _) rfl (lt_ok rfl)) ?_
   refine TL.cons rfl (Step.load (e := (.int .i64 (b.getD i default).f0)) rfl rfl (lt_ok rfl) (by kernel_rfl) rfl ((cell_map default (by first | omega | (simp; omega))).trans rfl)) ?_
   refine TL.cons rfl (Step.move (p := (.one (.d (.int .i64 (k + cntL SEntry.ce (a.take i)))))) rfl rfl (lt_ok rfl) rfl) ?_
   refine TL.cons rfl (Step.bin rfl rfl (lt_ok rfl) rfl rfl (Bin.neq (k := .i64) (a := (b.getD i default).f0) (b := (k + cntL SEntry.ce (a.take i))))) ?_
   refine TL.nil ?_
   refine T.cond (b := decide ((b.getD i default).f0 ≠ (k + cntL SEntry.ce (a.take i)))) rfl (fun h2 => ?_) (fun h2 => ?_)
   ·
    replace h2 := of_decide_eq_true h2
    refine T.seq ?_
    refine T.region ?_
    refine TL.cons rfl (Step.assign (p := (.one (.d (.int .i64 (-1))))) rfl rfl (lt_ok rfl) rfl) ?_
    refine TL.nil ?_
    refine T.ret ?_
    exact ⟨[(false, [.d (.int .i64 (-1))])], (.cons rfl .nil), rfl, [], (RetC.rd' (by first | (congr 1; rw [cntL_all (by omega)]) | (exfalso; omega)) .nil)⟩
   ·
    replace h2 := of_decide_eq_false h2
    refine T.skip ?_
    refine T.seq ?_
    refine T.region ?_
    refine TL.cons rfl (Step.move (p := (.one (.d (.int .i64 (k + cntL SEntry.ce (a.take i)))))) rfl rfl (lt_ok rfl) rfl) ?_
    refine TL.cons rfl (Step.bin (r := .int .i64 ((k + cntL SEntry.ce (a.take i)) + 1)) rfl rfl (lt_ok rfl) rfl rfl (Bin.add (a := (k + cntL SEntry.ce (a.take i))) (b := 1) (by first | exact wrap_ok (by first | omega | (simp; omega)) (by first | omega | (simp; omega)) | rfl))) ?_
    refine TL.cons rfl (Step.assign (p := (.one (.d (.int .i64 ((k + cntL SEntry.ce (a.take i)) + 1))))) rfl rfl (lt_ok rfl) rfl) ?_
    refine TL.nil ?_
    refine T.seq ?_
    refine T.seq ?_
    refine T.region ?_
    refine TL.cons rfl (Step.move (p := (.one (.d (.sl 3 (b.map SEntry.cells))))) rfl rfl (lt_ok rfl) rfl) ?_
    refine TL.cons rfl (Step.move (p := (.one (.d (.int .i64 (i : Int))))) rfl rfl (lt_ok rfl) rfl) ?_
    refine TL.cons rfl (Step.index (e := 121) (z := 3) (i := (i : Int)) rfl rfl (lt_ok rfl) (by kernel_rfl) rfl rfl rfl (lt_ok rfl) rfl (by first | omega | (simp; omega)) (by simp only [D.size]; first | omega | (simp; omega))) ?_
    refine TL.cons rfl (Step.fieldAddr_e (j := 0) (off := 1) (n := 1) (one := true) rfl rfl (lt_ok rfl) (by kernel_rfl) (Nat.succ_ne_zero _) rfl (lt_ok rfl)) ?_
    refine TL.cons rfl (Step.load (e := (.int .i64 (b.getD i default).f1)) rfl rfl (lt_ok rfl) (by kernel_rfl) rfl ((cell_map default (by first | omega | (simp; omega))).trans rfl)) ?_
    refine TL.cons rfl (Step.move (p := (.one (.d (.int .i64 ((k + cntL SEntry.ce (a.take i)) + 1))))) rfl rfl (lt_ok rfl) rfl) ?_
    refine TL.cons rfl (Step.bin rfl rfl (lt_ok rfl) rfl rfl (Bin.neq (k := .i64) (a := (b.getD i default).f1) (b := ((k + cntL SEntry.ce (a.take i)) + 1)))) ?_
    refine TL.nil ?_
    refine T.cond (b := decide ((b.getD i default).f1 ≠ ((k + cntL SEntry.ce (a.take i)) + 1))) rfl (fun h3 => ?_) (fun h3 => ?_)
    ·
     replace h3 := of_decide_eq_true h3
     refine T.seq ?_
     refine T.region ?_
     refine TL.cons rfl (Step.assign (p := (.one (.d (.int .i64 (-1))))) rfl rfl (lt_ok rfl) rfl) ?_
     refine TL.nil ?_
     refine T.ret ?_
     exact ⟨[(false, [.d (.int .i64 (-1))])], (.cons rfl .nil), rfl, [], (RetC.rd' (by first | (congr 1; rw [cntL_all (by omega)]) | (exfalso; omega)) .nil)⟩
    ·
     replace h3 := of_decide_eq_false h3
     refine T.skip ?_
     refine T.seq ?_
     refine T.region ?_
     refine TL.cons rfl (Step.move (p := (.one (.d (.int .i64 ((k + cntL SEntry.ce (a.take i)) + 1))))) rfl rfl (lt_ok rfl) rfl) ?_
     refine TL.cons rfl (Step.bin (r := .int .i64 (((k + cntL SEntry.ce (a.take i)) + 1) + 1)) rfl rfl (lt_ok rfl) rfl rfl (Bin.add (a := ((k + cntL SEntry.ce (a.take i)) + 1)) (b := 1) (by first | exact wrap_ok (by first | omega | (simp; omega)) (by first | omega | (simp; omega)) | rfl))) ?_
     refine TL.cons rfl (Step.assign (p := (.one (.d (.int .i64 (((k + cntL SEntry.ce (a.take i)) + 1) + 1))))) rfl rfl (lt_ok rfl) rfl) ?_
     refine TL.nil ?_
     refine T.seq ?_
     refine T.region ?_
     refine TL.cons rfl (Step.move (p := (.one (.d (.sl 3 (b.map SEntry.cells))))) rfl rfl (lt_ok rfl) rfl) ?_
     refine TL.cons rfl (Step.move (p := (.one (.d (.int .i64 (i : Int))))) rfl rfl (lt_ok rfl) rfl) ?_
     refine TL.cons rfl (Step.index (e := 121) (z := 3) (i := (i : Int)) rfl rfl (lt_ok rfl) (by kernel_rfl) rfl rfl rfl (lt_ok rfl) rfl (by first | omega | (simp; omega)) (by simp only [D.size]; first | omega | (simp; omega))) ?_
     refine TL.cons rfl (Step.fieldAddr_e (j := 0) (off := 2) (n := 1) (one := true) rfl rfl (lt_ok rfl) (by kernel_rfl) (Nat.succ_ne_zero _) rfl (lt_ok rfl)) ?_
     refine TL.cons rfl (Step.load (e := (.ints .u8 (b.getD i default).f2)) rfl rfl (lt_ok rfl) (by kernel_rfl) rfl ((cell_map default (by first | omega | (simp; omega))).trans rfl)) ?_
     refine TL.cons rfl (Step.move (p := (.one (.d (.int .i64 (((k + cntL SEntry.ce (a.take i)) + 1) + 1))))) rfl rfl (lt_ok rfl) rfl) ?_
     refine TL.cons rfl (Step.call (f := 33) (xs := [.tmp 34, .tmp 35]) (ps := [(.one (.d (.ints .u8 (b.getD i default).f2))), (.one (.d (.int .i64 (((k + cntL SEntry.ce (a.take i)) + 1) + 1))))]) false (g := .func 33) rfl rfl (lt_ok rfl) rfl (by kernel_rfl) rfl (.cons (.one (.d _)) (.cons (.one (.d _)) .nil)) (ok_laws_heldByteS (a.getD i default).f2 (b.getD i default).f2 (((k + cntL SEntry.ce (a.take i)) + 1) + 1) (by omega) (by first | omega | (have := (by assumption); omega)) (by first | rfl | assumption | (repeat' (first | rfl | apply And.intro)))) (.inr rfl) rfl (by simp) rfl) ?_
     refine TL.cons rfl (Step.assign (p := (.one (.d (.int .i64 ((((k + cntL SEntry.ce (a.take i)) + 1) + 1) + ((a.getD i default).f2.length : Int)))))) rfl rfl (lt_ok rfl) rfl) ?_
     refine TL.nil ?_
     refine T.seq ?_
     refine T.region ?_
     refine TL.cons rfl (Step.move (p := (.one (.d (.int .i64 ((((k + cntL SEntry.ce (a.take i)) + 1) + 1) + ((a.getD i default).f2.length : Int)))))) rfl rfl (lt_ok rfl) rfl) ?_
     refine TL.cons rfl (Step.bin rfl rfl (lt_ok rfl) rfl rfl (Bin.lss (k := .i64) (a := ((((k + cntL SEntry.ce (a.take i)) + 1) + 1) + ((a.getD i default).f2.length : Int))) (b := 0))) ?_
     refine TL.known 38 (c := false) (decide_eq_false (by omega)) rfl ?_
     refine TL.nil ?_
     refine T.cond (b := false) rfl (fun h4_ => absurd h4_ (by simp)) (fun h4_ => ?_)
     refine T.skip ?_
     refine T.region ?_
     refine TL.cons rfl (Step.move (p := (.one (.d (.int .i64 (i : Int))))) rfl rfl (lt_ok rfl) rfl) ?_
     refine TL.cons rfl (Step.bin (r := .int .i64 ((i : Int) + 1)) rfl rfl (lt_ok rfl) rfl rfl (Bin.add (a := (i : Int)) (b := 1) (by first | exact wrap_ok (by first | omega | (simp; omega)) (by first | omega | (simp; omega)) | rfl))) ?_
     refine TL.cons rfl (Step.assign (p := (.one (.d (.int .i64 ((i : Int) + 1))))) rfl rfl (lt_ok rfl) rfl) ?_
     refine TL.nil ?_
     exact ⟨i + 1, by omega, by first | omega | (dsimp only; omega), Env.le_mk ⟨rfl, by first | rfl | (refine congrArg (fun n => PV.one (.d (.int .i64 n))) ?_; first | omega | (simp; done) | (simp [cntL]; done)), by first | rfl | (refine congrArg (fun n => PV.one (.d (.int .i64 n))) ?_; first | omega | (simp; done) | (simp [cntL]; done)), trivial⟩ trivial trivial⟩
  ·
   replace h1 := of_decide_eq_false h1
   refine T.exit ?_
   refine T.seq ?_
   refine T.region ?_
   refine TL.cons rfl (Step.move (p := (.one (.d (.int .i64 (k + cntL SEntry.ce (a.take i)))))) rfl rfl (lt_ok rfl) rfl) ?_
   refine TL.cons rfl (Step.assign (p := (.one (.d (.int .i64 (k + cntL SEntry.ce (a.take i)))))) rfl rfl (lt_ok rfl) rfl) ?_
   refine TL.nil ?_
   refine T.ret ?_
   exact ⟨[(false, [.d (.int .i64 (k + cntL SEntry.ce (a.take i)))])], (.cons rfl .nil), rfl, [], (RetC.rd' (by first | (congr 1; rw [cntL_all (by omega)]) | (exfalso; omega)) .nil)⟩
theorem ok_laws_heldTc (a : STc) (b : STc) (k : Int) (h0_ : 0 ≤ k) (h1_ : k + a.cm ≤ 4611686018427387904) (h2_ : STc.hm a b k) : RO Try.prog 72 [.agg b.cells, .one (.int .i64 k)] [(false, [.rd (.int .i64 (k + a.cm))])] := by
 refine RO.intro Try.func72 rfl 12 rfl (le_ok rfl) fun w Z => ?_
 have p0 : b.f1 = mkL SEntry.ce SEntry.me a.f1 k := h2_
 have n1 := cntL_nonneg SEntry.ce_nn a.f1
 simp only [STc.cm] at h1_
 refine T.seq ?_
 refine T.region ?_
 refine TL.cons rfl (Step.box (p := (.agg [.d (.int .i64 b.f0), .d (.sl 3 (b.f1.map SEntry.cells))])) (ps := [.d (.int .i64 b.f0), .d (.sl 3 (b.f1.map SEntry.cells))]) rfl rfl (lt_ok rfl) rfl rfl rfl rfl rfl) ?_
 refine TL.cons rfl (Step.assign (p := (.one (.d (.int .i64 0)))) rfl rfl (lt_ok rfl) rfl) ?_
 refine TL.nil ?_
 refine T.seq ?_
 refine T.region ?_
 refine TL.cons rfl (Step.fieldAddr (q := 0) (off := 1) (n := 1) (one := true) rfl rfl (lt_ok rfl) (by kernel_rfl) (Nat.succ_ne_zero _) rfl) ?_
 refine TL.cons rfl (Step.load_box (c := .d (.sl 3 (b.f1.map SEntry.cells))) rfl rfl (lt_ok rfl) (by kernel_rfl) rfl rfl rfl) ?_
 refine TL.cons rfl (Step.move (p := (.one (.d (.int .i64 k)))) rfl rfl (lt_ok rfl) rfl) ?_
 have nn1 := cntL_nonneg SEntry.ce_nn a.f1
 refine TL.cons rfl (Step.call (f := 129) (xs := [.tmp 6, .tmp 7]) (ps := [(.one (.d (.sl 3 (b.f1.map SEntry.cells)))), (.one (.d (.int .i64 k)))]) false (g := .func 129) rfl rfl (lt_ok rfl) rfl (by kernel_rfl) rfl (.cons (.one (.d _)) (.cons (.one (.d _)) .nil)) (ok_laws_heldEntryS a.f1 b.f1 k (by omega) (by first | omega | (have := SEntry.cL_le (xs := a.f1) (by assumption); omega)) (by first | rfl | assumption | (repeat' (first | rfl | apply And.intro)))) (.inr rfl) rfl (by simp) rfl) ?_
 refine TL.cons rfl (Step.assign (p := (.one (.d (.int .i64 (k + cntL SEntry.ce a.f1))))) rfl rfl (lt_ok rfl) rfl) ?_
 refine TL.nil ?_
 refine T.seq ?_
 refine T.seq ?_
 refine T.region ?_
 refine TL.cons rfl (Step.move (p := (.one (.d (.int .i64 (k + cntL SEntry.ce a.f1))))) rfl rfl (lt_ok rfl) rfl) ?_
 refine TL.cons rfl (Step.bin rfl rfl (lt_ok rfl) rfl rfl (Bin.lss (k := .i64) (a := (k + cntL SEntry.ce a.f1)) (b := 0))) ?_
 refine TL.known 10 (c := false) (decide_eq_false (by omega)) rfl ?_
 refine TL.nil ?_
 refine T.cond (b := false) rfl (fun h2_ => absurd h2_ (by simp)) (fun h2_ => ?_)
 refine T.skip ?_
 refine T.seq ?_
 refine T.region ?_
 refine TL.cons rfl (Step.move (p := (.one (.d (.int .i64 (k + cntL SEntry.ce a.f1))))) rfl rfl (lt_ok rfl) rfl) ?_
 refine TL.cons rfl (Step.assign (p := (.one (.d (.int .i64 (k + cntL SEntry.ce a.f1))))) rfl rfl (lt_ok rfl) rfl) ?_
 refine TL.nil ?_
 refine T.ret ?_
 exact ⟨[(false, [.d (.int .i64 (k + cntL SEntry.ce a.f1))])], (.cons rfl .nil), rfl, [], (RetC.rd' (by first | rfl | (congr 1; simp only [STc.cm]; omega)) .nil)⟩
theorem ok_laws_heldIncl (a : SIncl) (b : SIncl) (k : Int) (h0_ : 0 ≤ k) (h1_ : k + a.cm ≤ 4611686018427387904) (h2_ : SIncl.hm a b k) : RO Try.prog 75 [.agg b.cells, .one (.int .i64 k)] [(false, [.rd (.int .i64 (k + a.cm))])] := by
 refine RO.intro Try.func75 rfl 18 rfl (le_ok rfl) fun w Z => ?_
 obtain ⟨p3, p4⟩ := h2_
 have n4 := cntBs_nonneg a.f4
 simp only [SIncl.cm] at h1_
 refine T.seq ?_
 refine T.region ?_
 refine TL.cons rfl (Step.box (p := (.agg [.d (.int .i64 b.f0), .d (.int .i64 b.f1), .d (.int .i64 b.f2), .d (.ints .u8 b.f3), .d (.bss b.f4)])) (ps := [.d (.int .i64 b.f0), .d (.int .i64 b.f1), .d (.int .i64 b.f2), .d (.ints .u8 b.f3), .d (.bss b.f4)]) rfl rfl (lt_ok rfl) rfl rfl rfl rfl rfl) ?_
 refine TL.cons rfl (Step.assign (p := (.one (.d (.int .i64 0)))) rfl rfl (lt_ok rfl) rfl) ?_
 refine TL.nil ?_
 refine T.seq ?_
 refine T.region ?_
 refine TL.cons rfl (Step.fieldAddr (q := 0) (off := 3) (n := 1) (one := true) rfl rfl (lt_ok rfl) (by kernel_rfl) (Nat.succ_ne_zero _) rfl) ?_
 refine TL.cons rfl (Step.load_box (c := .d (.ints .u8 b.f3)) rfl rfl (lt_ok rfl) (by kernel_rfl) rfl rfl rfl) ?_
 refine TL.cons rfl (Step.move (p := (.one (.d (.int .i64 k)))) rfl rfl (lt_ok rfl) rfl) ?_
 refine TL.cons rfl (Step.call (f := 33) (xs := [.tmp 6, .tmp 7]) (ps := [(.one (.d (.ints .u8 b.f3))), (.one (.d (.int .i64 k)))]) false (g := .func 33) rfl rfl (lt_ok rfl) rfl (by kernel_rfl) rfl (.cons (.one (.d _)) (.cons (.one (.d _)) .nil)) (ok_laws_heldByteS a.f3 b.f3 k (by omega) (by first | omega | (have := (by assumption); omega)) (by first | rfl | assumption | (repeat' (first | rfl | apply And.intro)))) (.inr rfl) rfl (by simp) rfl) ?_
 refine TL.cons rfl (Step.assign (p := (.one (.d (.int .i64 (k + (a.f3.length : Int)))))) rfl rfl (lt_ok rfl) rfl) ?_
 refine TL.nil ?_
 refine T.seq ?_
 refine T.seq ?_
 refine T.region ?_
 refine TL.cons rfl (Step.move (p := (.one (.d (.int .i64 (k + (a.f3.length : Int)))))) rfl rfl (lt_ok rfl) rfl) ?_
 refine TL.cons rfl (Step.bin rfl rfl (lt_ok rfl) rfl rfl (Bin.lss (k := .i64) (a := (k + (a.f3.length : Int))) (b := 0))) ?_
 refine TL.known 10 (c := false) (decide_eq_false (by omega)) rfl ?_
 refine TL.nil ?_
 refine T.cond (b := false) rfl (fun h1_ => absurd h1_ (by simp)) (fun h1_ => ?_)
 refine T.skip ?_
 refine T.seq ?_
 refine T.region ?_
 refine TL.cons rfl (Step.fieldAddr (q := 0) (off := 4) (n := 1) (one := true) rfl rfl (lt_ok rfl) (by kernel_rfl) (Nat.succ_ne_zero _) rfl) ?_
 refine TL.cons rfl (Step.load_box (c := .d (.bss b.f4)) rfl rfl (lt_ok rfl) (by kernel_rfl) rfl rfl rfl) ?_
 refine TL.cons rfl (Step.move (p := (.one (.d (.int .i64 (k + (a.f3.length : Int)))))) rfl rfl (lt_ok rfl) rfl) ?_
 have nn2 := cntBs_nonneg a.f4
 refine TL.cons rfl (Step.call (f := 99) (xs := [.tmp 12, .tmp 13]) (ps := [(.one (.d (.bss b.f4))), (.one (.d (.int .i64 (k + (a.f3.length : Int)))))]) false (g := .func 99) rfl rfl (lt_ok rfl) rfl (by kernel_rfl) rfl (.cons (.one (.d _)) (.cons (.one (.d _)) .nil)) (ok_laws_heldByteSS a.f4 b.f4 (k + (a.f3.length : Int)) (by omega) (by first | omega | (have := cntBs_le (xs := a.f4) (by assumption); omega)) (by first | rfl | assumption | (repeat' (first | rfl | apply And.intro)))) (.inr rfl) rfl (by simp) rfl) ?_
 refine TL.cons rfl (Step.assign (p := (.one (.d (.int .i64 ((k + (a.f3.length : Int)) + cntL (fun x : List Int => (x.length : Int)) a.f4))))) rfl rfl (lt_ok rfl) rfl) ?_
 refine TL.nil ?_
 refine T.seq ?_
 refine T.seq ?_
 refine T.region ?_
 refine TL.cons rfl (Step.move (p := (.one (.d (.int .i64 ((k + (a.f3.length : Int)) + cntL (fun x : List Int => (x.length : Int)) a.f4))))) rfl rfl (lt_ok rfl) rfl) ?_
 refine TL.cons rfl (Step.bin rfl rfl (lt_ok rfl) rfl rfl (Bin.lss (k := .i64) (a := ((k + (a.f3.length : Int)) + cntL (fun x : List Int => (x.length : Int)) a.f4)) (b := 0))) ?_
 refine TL.known 16 (c := false) (decide_eq_false (by omega)) rfl ?_
 refine TL.nil ?_
 refine T.cond (b := false) rfl (fun h3_ => absurd h3_ (by simp)) (fun h3_ => ?_)
 refine T.skip ?_
 refine T.seq ?_
 refine T.region ?_
 refine TL.cons rfl (Step.move (p := (.one (.d (.int .i64 ((k + (a.f3.length : Int)) + cntL (fun x : List Int => (x.length : Int)) a.f4))))) rfl rfl (lt_ok rfl) rfl) ?_
 refine TL.cons rfl (Step.assign (p := (.one (.d (.int .i64 ((k + (a.f3.length : Int)) + cntL (fun x : List Int => (x.length : Int)) a.f4))))) rfl rfl (lt_ok rfl) rfl) ?_
 refine TL.nil ?_
 refine T.ret ?_
 exact ⟨[(false, [.d (.int .i64 ((k + (a.f3.length : Int)) + cntL (fun x : List Int => (x.length : Int)) a.f4))])], (.cons rfl .nil), rfl, [], (RetC.rd' (by first | rfl | (congr 1; simp only [SIncl.cm]; omega)) .nil)⟩
theorem ok_laws_heldHead (a : SHead) (b : SHead) (k : Int) (h0_ : 0 ≤ k) (h1_ : k + a.cm ≤ 4611686018427387904) (h2_ : SHead.hm a b k) : RO Try.prog 104 [.agg b.cells, .one (.int .i64 k)] [(false, [.rd (.int .i64 (k + a.cm))])] := by
 refine RO.intro Try.func104 rfl 24 rfl (le_ok rfl) fun w Z => ?_
 obtain ⟨p3, p4, p5⟩ := h2_
 have n5 := SQc.cm_nn a.f5
 simp only [SHead.cm] at h1_
 refine T.seq ?_
 refine T.region ?_
 refine TL.cons rfl (Step.box (p := (.agg [.d (.int .i64 b.f0), .d (.int .i64 b.f1), .d (.int .i64 b.f2), .d (.ints .u8 b.f3), .d (.ints .u8 b.f4), .d (.int .i64 b.f5.f0), .d (.int .i64 b.f5.f1), .d (.ints .u8 b.f5.f2), .d (.ints .u8 b.f5.f3), .d (.bss b.f5.f4)])) (ps := [.d (.int .i64 b.f0), .d (.int .i64 b.f1), .d (.int .i64 b.f2), .d (.ints .u8 b.f3), .d (.ints .u8 b.f4), .d (.int .i64 b.f5.f0), .d (.int .i64 b.f5.f1), .d (.ints .u8 b.f5.f2), .d (.ints .u8 b.f5.f3), .d (.bss b.f5.f4)]) rfl rfl (lt_ok rfl) rfl rfl rfl rfl rfl) ?_
 refine TL.cons rfl (Step.assign (p := (.one (.d (.int .i64 0)))) rfl rfl (lt_ok rfl) rfl) ?_
 refine TL.nil ?_
 refine T.seq ?_
 refine T.region ?_
 refine TL.cons rfl (Step.fieldAddr (q := 0) (off := 3) (n := 1) (one := true) rfl rfl (lt_ok rfl) (by kernel_rfl) (Nat.succ_ne_zero _) rfl) ?_
 refine TL.cons rfl (Step.load_box (c := .d (.ints .u8 b.f3)) rfl rfl (lt_ok rfl) (by kernel_rfl) rfl rfl rfl) ?_
 refine TL.cons rfl (Step.move (p := (.one (.d (.int .i64 k)))) rfl rfl (lt_ok rfl) rfl) ?_
 refine TL.cons rfl (Step.call (f := 33) (xs := [.tmp 6, .tmp 7]) (ps := [(.one (.d (.ints .u8 b.f3))), (.one (.d (.int .i64 k)))]) false (g := .func 33) rfl rfl (lt_ok rfl) rfl (by kernel_rfl) rfl (.cons (.one (.d _)) (.cons (.one (.d _)) .nil)) (ok_laws_heldByteS a.f3 b.f3 k (by omega) (by first | omega | (have := (by assumption); omega)) (by first | rfl | assumption | (repeat' (first | rfl | apply And.intro)))) (.inr rfl) rfl (by simp) rfl) ?_
 refine TL.cons rfl (Step.assign (p := (.one (.d (.int .i64 (k + (a.f3.length : Int)))))) rfl rfl (lt_ok rfl) rfl) ?_
 refine TL.nil ?_
 refine T.seq ?_
 refine T.seq ?_
 refine T.region ?_
 refine TL.cons rfl (Step.move (p := (.one (.d (.int .i64 (k + (a.f3.length : Int)))))) rfl rfl (lt_ok rfl) rfl) ?_
 refine TL.cons rfl (Step.bin rfl rfl (lt_ok rfl) rfl rfl (Bin.lss (k := .i64) (a := (k + (a.f3.length : Int))) (b := 0))) ?_
 refine TL.known 10 (c := false) (decide_eq_false (by omega)) rfl ?_
 refine TL.nil ?_
 refine T.cond (b := false) rfl (fun h1_ => absurd h1_ (by simp)) (fun h1_ => ?_)
 refine T.skip ?_
 refine T.seq ?_
 refine T.region ?_
 refine TL.cons rfl (Step.fieldAddr (q := 0) (off := 4) (n := 1) (one := true) rfl rfl (lt_ok rfl) (by kernel_rfl) (Nat.succ_ne_zero _) rfl) ?_
 refine TL.cons rfl (Step.load_box (c := .d (.ints .u8 b.f4)) rfl rfl (lt_ok rfl) (by kernel_rfl) rfl rfl rfl) ?_
 refine TL.cons rfl (Step.move (p := (.one (.d (.int .i64 (k + (a.f3.length : Int)))))) rfl rfl (lt_ok rfl) rfl) ?_
 refine TL.cons rfl (Step.call (f := 33) (xs := [.tmp 12, .tmp 13]) (ps := [(.one (.d (.ints .u8 b.f4))), (.one (.d (.int .i64 (k + (a.f3.length : Int)))))]) false (g := .func 33) rfl rfl (lt_ok rfl) rfl (by kernel_rfl) rfl (.cons (.one (.d _)) (.cons (.one (.d _)) .nil)) (ok_laws_heldByteS a.f4 b.f4 (k + (a.f3.length : Int)) (by omega) (by first | omega | (have := (by assumption); omega)) (by first | rfl | assumption | (repeat' (first | rfl | apply And.intro)))) (.inr rfl) rfl (by simp) rfl) ?_
 refine TL.cons rfl (Step.assign (p := (.one (.d (.int .i64 ((k + (a.f3.length : Int)) + (a.f4.length : Int)))))) rfl rfl (lt_ok rfl) rfl) ?_
 refine TL.nil ?_
 refine T.seq ?_
 refine T.seq ?_
 refine T.region ?_
 refine TL.cons rfl (Step.move (p := (.one (.d (.int .i64 ((k + (a.f3.length : Int)) + (a.f4.length : Int)))))) rfl rfl (lt_ok rfl) rfl) ?_
 refine TL.cons rfl (Step.bin rfl rfl (lt_ok rfl) rfl rfl (Bin.lss (k := .i64) (a := ((k + (a.f3.length : Int)) + (a.f4.length : Int))) (b := 0))) ?_
 refine TL.known 16 (c := false) (decide_eq_false (by omega)) rfl ?_
 refine TL.nil ?_
 refine T.cond (b := false) rfl (fun h2_ => absurd h2_ (by simp)) (fun h2_ => ?_)
 refine T.skip ?_
 refine T.seq ?_
 refine T.region ?_
 refine TL.cons rfl (Step.fieldAddr (q := 0) (off := 5) (n := 5) (one := false) rfl rfl (lt_ok rfl) (by kernel_rfl) (Nat.succ_ne_zero _) rfl) ?_
 refine TL.cons rfl (Step.load_box_agg (n := 5) (qs := [.d (.int .i64 b.f5.f0), .d (.int .i64 b.f5.f1), .d (.ints .u8 b.f5.f2), .d (.ints .u8 b.f5.f3), .d (.bss b.f5.f4)]) rfl rfl (lt_ok rfl) (by kernel_rfl) rfl rfl rfl rfl) ?_
 refine TL.cons rfl (Step.move (p := (.one (.d (.int .i64 ((k + (a.f3.length : Int)) + (a.f4.length : Int)))))) rfl rfl (lt_ok rfl) rfl) ?_
 have nn3 := SQc.cm_nn a.f5
 refine TL.cons rfl (Step.call (f := 38) (xs := [.tmp 18, .tmp 19]) (ps := [(.agg [.d (.int .i64 b.f5.f0), .d (.int .i64 b.f5.f1), .d (.ints .u8 b.f5.f2), .d (.ints .u8 b.f5.f3), .d (.bss b.f5.f4)]), (.one (.d (.int .i64 ((k + (a.f3.length : Int)) + (a.f4.length : Int)))))]) false (g := .func 38) rfl rfl (lt_ok rfl) rfl (by kernel_rfl) rfl (.cons (.agg (.cons (.d _) (.cons (.d _) (.cons (.d _) (.cons (.d _) (.cons (.d _) .nil)))))) (.cons (.one (.d _)) .nil)) (ok_laws_heldQc a.f5 b.f5 ((k + (a.f3.length : Int)) + (a.f4.length : Int)) (by omega) (by first | omega | (have := SQc.cm_le (x := a.f5) (by assumption); omega)) (by first | rfl | assumption | (repeat' (first | rfl | apply And.intro)))) (.inr rfl) rfl (by simp) rfl) ?_
 refine TL.cons rfl (Step.assign (p := (.one (.d (.int .i64 (((k + (a.f3.length : Int)) + (a.f4.length : Int)) + a.f5.cm))))) rfl rfl (lt_ok rfl) rfl) ?_
 refine TL.nil ?_
 refine T.seq ?_
 refine T.seq ?_
 refine T.region ?_
 refine TL.cons rfl (Step.move (p := (.one (.d (.int .i64 (((k + (a.f3.length : Int)) + (a.f4.length : Int)) + a.f5.cm))))) rfl rfl (lt_ok rfl) rfl) ?_
 refine TL.cons rfl (Step.bin rfl rfl (lt_ok rfl) rfl rfl (Bin.lss (k := .i64) (a := (((k + (a.f3.length : Int)) + (a.f4.length : Int)) + a.f5.cm)) (b := 0))) ?_
 refine TL.known 22 (c := false) (decide_eq_false (by omega)) rfl ?_
 refine TL.nil ?_
 refine T.cond (b := false) rfl (fun h4_ => absurd h4_ (by simp)) (fun h4_ => ?_)
 refine T.skip ?_
 refine T.seq ?_
 refine T.region ?_
 refine TL.cons rfl (Step.move (p := (.one (.d (.int .i64 (((k + (a.f3.length : Int)) + (a.f4.length : Int)) + a.f5.cm))))) rfl rfl (lt_ok rfl) rfl) ?_
 refine TL.cons rfl (Step.assign (p := (.one (.d (.int .i64 (((k + (a.f3.length : Int)) + (a.f4.length : Int)) + a.f5.cm))))) rfl rfl (lt_ok rfl) rfl) ?_
 refine TL.nil ?_
 refine T.ret ?_
 exact ⟨[(false, [.d (.int .i64 (((k + (a.f3.length : Int)) + (a.f4.length : Int)) + a.f5.cm))])], (.cons rfl .nil), rfl, [], (RetC.rd' (by first | rfl | (congr 1; simp only [SHead.cm]; omega)) .nil)⟩
theorem ok_laws_heldBlock (a : SBlock) (b : SBlock) (k : Int) (h0_ : 0 ≤ k) (h1_ : k + a.cm ≤ 4611686018427387904) (h2_ : SBlock.hm a b k) : RO Try.prog 105 [.agg b.cells, .one (.int .i64 k)] [(false, [.rd (.int .i64 (k + a.cm))])] := by
 refine RO.intro Try.func105 rfl 18 rfl (le_ok rfl) fun w Z => ?_
 obtain ⟨p0, p1⟩ := h2_
 have n0 := SHead.cm_nn a.f0
 have n1 := cntBs_nonneg a.f1
 simp only [SBlock.cm] at h1_
 refine T.seq ?_
 refine T.region ?_
 refine TL.cons rfl (Step.box (p := (.agg [.d (.int .i64 b.f0.f0), .d (.int .i64 b.f0.f1), .d (.int .i64 b.f0.f2), .d (.ints .u8 b.f0.f3), .d (.ints .u8 b.f0.f4), .d (.int .i64 b.f0.f5.f0), .d (.int .i64 b.f0.f5.f1), .d (.ints .u8 b.f0.f5.f2), .d (.ints .u8 b.f0.f5.f3), .d (.bss b.f0.f5.f4), .d (.bss b.f1)])) (ps := [.d (.int .i64 b.f0.f0), .d (.int .i64 b.f0.f1), .d (.int .i64 b.f0.f2), .d (.ints .u8 b.f0.f3), .d (.ints .u8 b.f0.f4), .d (.int .i64 b.f0.f5.f0), .d (.int .i64 b.f0.f5.f1), .d (.ints .u8 b.f0.f5.f2), .d (.ints .u8 b.f0.f5.f3), .d (.bss b.f0.f5.f4), .d (.bss b.f1)]) rfl rfl (lt_ok rfl) rfl rfl rfl rfl rfl) ?_
 refine TL.cons rfl (Step.assign (p := (.one (.d (.int .i64 0)))) rfl rfl (lt_ok rfl) rfl) ?_
 refine TL.nil ?_
 refine T.seq ?_
 refine T.region ?_
 refine TL.cons rfl (Step.fieldAddr (q := 0) (off := 0) (n := 10) (one := false) rfl rfl (lt_ok rfl) (by kernel_rfl) (Nat.succ_ne_zero _) rfl) ?_
 refine TL.cons rfl (Step.load_box_agg (n := 10) (qs := [.d (.int .i64 b.f0.f0), .d (.int .i64 b.f0.f1), .d (.int .i64 b.f0.f2), .d (.ints .u8 b.f0.f3), .d (.ints .u8 b.f0.f4), .d (.int .i64 b.f0.f5.f0), .d (.int .i64 b.f0.f5.f1), .d (.ints .u8 b.f0.f5.f2), .d (.ints .u8 b.f0.f5.f3), .d (.bss b.f0.f5.f4)]) rfl rfl (lt_ok rfl) (by kernel_rfl) rfl rfl rfl rfl) ?_
 refine TL.cons rfl (Step.move (p := (.one (.d (.int .i64 k)))) rfl rfl (lt_ok rfl) rfl) ?_
 have nn1 := SHead.cm_nn a.f0
 refine TL.cons rfl (Step.call (f := 104) (xs := [.tmp 6, .tmp 7]) (ps := [(.agg [.d (.int .i64 b.f0.f0), .d (.int .i64 b.f0.f1), .d (.int .i64 b.f0.f2), .d (.ints .u8 b.f0.f3), .d (.ints .u8 b.f0.f4), .d (.int .i64 b.f0.f5.f0), .d (.int .i64 b.f0.f5.f1), .d (.ints .u8 b.f0.f5.f2), .d (.ints .u8 b.f0.f5.f3), .d (.bss b.f0.f5.f4)]), (.one (.d (.int .i64 k)))]) false (g := .func 104) rfl rfl (lt_ok rfl) rfl (by kernel_rfl) rfl (.cons (.agg (.cons (.d _) (.cons (.d _) (.cons (.d _) (.cons (.d _) (.cons (.d _) (.cons (.d _) (.cons (.d _) (.cons (.d _) (.cons (.d _) (.cons (.d _) .nil))))))))))) (.cons (.one (.d _)) .nil)) (ok_laws_heldHead a.f0 b.f0 k (by omega) (by first | omega | (have := SHead.cm_le (x := a.f0) (by assumption); omega)) (by first | rfl | assumption | (repeat' (first | rfl | apply And.intro)))) (.inr rfl) rfl (by simp) rfl) ?_
 refine TL.cons rfl (Step.assign (p := (.one (.d (.int .i64 (k + a.f0.cm))))) rfl rfl (lt_ok rfl) rfl) ?_
 refine TL.nil ?_
 refine T.seq ?_
 refine T.seq ?_
 refine T.region ?_
 refine TL.cons rfl (Step.move (p := (.one (.d (.int .i64 (k + a.f0.cm))))) rfl rfl (lt_ok rfl) rfl) ?_
 refine TL.cons rfl (Step.bin rfl rfl (lt_ok rfl) rfl rfl (Bin.lss (k := .i64) (a := (k + a.f0.cm)) (b := 0))) ?_
 refine TL.known 10 (c := false) (decide_eq_false (by omega)) rfl ?_
 refine TL.nil ?_
 refine T.cond (b := false) rfl (fun h2_ => absurd h2_ (by simp)) (fun h2_ => ?_)
 refine T.skip ?_
 refine T.seq ?_
 refine T.region ?_
 refine TL.cons rfl (Step.fieldAddr (q := 0) (off := 10) (n := 1) (one := true) rfl rfl (lt_ok rfl) (by kernel_rfl) (Nat.succ_ne_zero _) rfl) ?_
 refine TL.cons rfl (Step.load_box (c := .d (.bss b.f1)) rfl rfl (lt_ok rfl) (by kernel_rfl) rfl rfl rfl) ?_
 refine TL.cons rfl (Step.move (p := (.one (.d (.int .i64 (k + a.f0.cm))))) rfl rfl (lt_ok rfl) rfl) ?_
 have nn3 := cntBs_nonneg a.f1
 refine TL.cons rfl (Step.call (f := 99) (xs := [.tmp 12, .tmp 13]) (ps := [(.one (.d (.bss b.f1))), (.one (.d (.int .i64 (k + a.f0.cm))))]) false (g := .func 99) rfl rfl (lt_ok rfl) rfl (by kernel_rfl) rfl (.cons (.one (.d _)) (.cons (.one (.d _)) .nil)) (ok_laws_heldByteSS a.f1 b.f1 (k + a.f0.cm) (by omega) (by first | omega | (have := cntBs_le (xs := a.f1) (by assumption); omega)) (by first | rfl | assumption | (repeat' (first | rfl | apply And.intro)))) (.inr rfl) rfl (by simp) rfl) ?_
 refine TL.cons rfl (Step.assign (p := (.one (.d (.int .i64 ((k + a.f0.cm) + cntL (fun x : List Int => (x.length : Int)) a.f1))))) rfl rfl (lt_ok rfl) rfl) ?_
 refine TL.nil ?_
 refine T.seq ?_
 refine T.seq ?_
 refine T.region ?_
 refine TL.cons rfl (Step.move (p := (.one (.d (.int .i64 ((k + a.f0.cm) + cntL (fun x : List Int => (x.length : Int)) a.f1))))) rfl rfl (lt_ok rfl) rfl) ?_
 refine TL.cons rfl (Step.bin rfl rfl (lt_ok rfl) rfl rfl (Bin.lss (k := .i64) (a := ((k + a.f0.cm) + cntL (fun x : List Int => (x.length : Int)) a.f1)) (b := 0))) ?_
 refine TL.known 16 (c := false) (decide_eq_false (by omega)) rfl ?_
 refine TL.nil ?_
 refine T.cond (b := false) rfl (fun h4_ => absurd h4_ (by simp)) (fun h4_ => ?_)
 refine T.skip ?_
 refine T.seq ?_
 refine T.region ?_
 refine TL.cons rfl (Step.move (p := (.one (.d (.int .i64 ((k + a.f0.cm) + cntL (fun x : List Int => (x.length : Int)) a.f1))))) rfl rfl (lt_ok rfl) rfl) ?_
 refine TL.cons rfl (Step.assign (p := (.one (.d (.int .i64 ((k + a.f0.cm) + cntL (fun x : List Int => (x.length : Int)) a.f1))))) rfl rfl (lt_ok rfl) rfl) ?_
 refine TL.nil ?_
 refine T.ret ?_
 exact ⟨[(false, [.d (.int .i64 ((k + a.f0.cm) + cntL (fun x : List Int => (x.length : Int)) a.f1))])], (.cons rfl .nil), rfl, [], (RetC.rd' (by first | rfl | (congr 1; simp only [SBlock.cm]; omega)) .nil)⟩
theorem ok_laws_heldHeadS (a : List SHead) (b : List SHead) (k : Int) (h0_ : 0 ≤ k) (h1_ : k + cntL SHead.ce a ≤ 4611686018427387904) (h2_ : b = mkL SHead.ce SHead.me a k) : RO Try.prog 158 [.one (.sl 10 (b.map SHead.cells)), .one (.int .i64 k)] [(false, [.rd (.int .i64 (k + cntL SHead.ce a))])] := by
 refine RO.intro Try.func158 rfl 108 rfl (le_ok rfl) fun w Z => ?_
 refine T.bnd 0 0 rfl rfl fun hb_0_0 => ?_
 simp only [D.size, List.length_map] at hb_0_0
 have hl_ : b.length = a.length := by rw [h2_, mkL_length]
 have hg_ : ∀ i, i < a.length → b.getD i default = SHead.me (a.getD i default) (k + cntL SHead.ce (a.take i)) := fun i hi => by rw [h2_, mkL_getD _ _ _ _ hi]
 refine T.seq ?_
 refine T.region ?_
 refine TL.cons rfl (Step.assign (p := (.one (.d (.int .i64 0)))) rfl rfl (lt_ok rfl) rfl) ?_
 refine TL.nil ?_
 refine T.seq ?_
 refine T.seq ?_
 refine T.region ?_
 refine TL.cons rfl (Step.assign (p := (.one (.d (.int .i64 0)))) rfl rfl (lt_ok rfl) rfl) ?_
 refine TL.nil ?_
 refine T.block ?_
 refine T.loop (ι := Nat) (fun x => { tm := [(0, (.one (.d (.sl 10 (b.map SHead.cells))))), (5, (.one (.d (.int .i64 (x : Int))))), (1, (.one (.d (.int .i64 (k + cntL SHead.ce (a.take x))))))], rows := [], boxes := [] }) (fun x => x ≤ a.length) (fun x => a.length - x) 0 ?_ ?_ ?_
 · exact Env.le_mk ⟨rfl, by first | rfl | (refine congrArg (fun n => PV.one (.d (.int .i64 n))) ?_; first | omega | (simp; done) | (simp [cntL]; done)), by first | rfl | (refine congrArg (fun n => PV.one (.d (.int .i64 n))) ?_; first | omega | (simp; done) | (simp [cntL]; done)), trivial⟩ trivial trivial
 · exact Nat.zero_le _
 ·
  intro i hx
  try dsimp only at hx ⊢
  refine T.seq ?_
  refine T.seq ?_
  refine T.region ?_
  refine TL.cons rfl (Step.move (p := (.one (.d (.int .i64 (i : Int))))) rfl rfl (lt_ok rfl) rfl) ?_
  refine TL.cons rfl (Step.move (p := (.one (.d (.sl 10 (b.map SHead.cells))))) rfl rfl (lt_ok rfl) rfl) ?_
  refine TL.cons rfl (Step.len' (e := 66) (z := 10) (d := (.sl 10 (b.map SHead.cells))) (n := b.length) rfl rfl (lt_ok rfl) (by kernel_rfl) rfl rfl (by simp [D.size])) ?_
  refine TL.cons rfl (Step.bin rfl rfl (lt_ok rfl) rfl rfl (Bin.lss (k := .i64) (a := (i : Int)) (b := (b.length : Int)))) ?_
  refine TL.nil ?_
  refine T.cond (b := decide ((i : Int) < (b.length : Int))) rfl (fun h1 => ?_) (fun h1 => ?_)
  ·
   replace h1 := of_decide_eq_true h1
   have hc1 := cntL_take_le (cnt := SHead.ce) SHead.ce_nn a (i + 1)
   have hc2 := cntL_take_succ (cnt := SHead.ce) (i := i) default (show i < a.length by omega)
   have hc3 := cntL_nonneg (cnt := SHead.ce) SHead.ce_nn (a.take i)
   have he_ := hg_ i (by omega)
   have hc4 : SHead.ce (a.getD i default) = 1 + 1 + 1 + ((a.getD i default).f3.length : Int) + ((a.getD i default).f4.length : Int) + (1 + 1 + ((a.getD i default).f5.f2.length : Int) + ((a.getD i default).f5.f3.length : Int) + cntL (fun x : List Int => (x.length : Int)) (a.getD i default).f5.f4) := rfl
   have hn0 := cntBs_nonneg (a.getD i default).f5.f4
   have he0 : (b.getD i default).f0 = k + cntL SHead.ce (a.take i) := by rw [he_]; rfl
   have he1 : (b.getD i default).f1 = (k + cntL SHead.ce (a.take i)) + 1 := by rw [he_]; rfl
   have he2 : (b.getD i default).f2 = ((k + cntL SHead.ce (a.take i)) + 1) + 1 := by rw [he_]; rfl
   have he3 : (b.getD i default).f3 = mkB (a.getD i default).f3 ((((k + cntL SHead.ce (a.take i)) + 1) + 1) + 1) := by rw [he_]; rfl
   have he4 : (b.getD i default).f4 = mkB (a.getD i default).f4 (((((k + cntL SHead.ce (a.take i)) + 1) + 1) + 1) + ((a.getD i default).f3.length : Int)) := by rw [he_]; rfl
   have he5 : (b.getD i default).f5.f0 = (((((k + cntL SHead.ce (a.take i)) + 1) + 1) + 1) + ((a.getD i default).f3.length : Int)) + ((a.getD i default).f4.length : Int) := by rw [he_]; rfl
   have he6 : (b.getD i default).f5.f1 = ((((((k + cntL SHead.ce (a.take i)) + 1) + 1) + 1) + ((a.getD i default).f3.length : Int)) + ((a.getD i default).f4.length : Int)) + 1 := by rw [he_]; rfl
   have he7 : (b.getD i default).f5.f2 = mkB (a.getD i default).f5.f2 ((((((((k + cntL SHead.ce (a.take i)) + 1) + 1) + 1) + ((a.getD i default).f3.length : Int)) + ((a.getD i default).f4.length : Int)) + 1) + 1) := by rw [he_]; rfl
   have he8 : (b.getD i default).f5.f3 = mkB (a.getD i default).f5.f3 (((((((((k + cntL SHead.ce (a.take i)) + 1) + 1) + 1) + ((a.getD i default).f3.length : Int)) + ((a.getD i default).f4.length : Int)) + 1) + 1) + ((a.getD i default).f5.f2.length : Int)) := by rw [he_]; rfl
   have he9 : (b.getD i default).f5.f4 = mkBs (a.getD i default).f5.f4 ((((((((((k + cntL SHead.ce (a.take i)) + 1) + 1) + 1) + ((a.getD i default).f3.length : Int)) + ((a.getD i default).f4.length : Int)) + 1) + 1) + ((a.getD i default).f5.f2.length : Int)) + ((a.getD i default).f5.f3.length : Int)) := by rw [he_]; rfl
   refine T.skip ?_
   refine T.seq ?_
   refine T.block ?_
   refine T.seq ?_
   refine T.seq ?_
   refine T.region ?_
   refine TL.cons rfl (Step.move (p := (.one (.d (.sl 10 (b.map SHead.cells))))) rfl rfl (lt_ok rfl) rfl) ?_
   refine TL.cons rfl (Step.move (p := (.one (.d (.int .i64 (i : Int))))) rfl rfl (lt_ok rfl) rfl) ?_
   refine TL.cons rfl (Step.index (e := 66) (z := 10) (i := (i : Int)) rfl rfl (lt_ok rfl) (by kernel_rfl) rfl rfl rfl (lt_ok rfl) rfl (by first | omega | (simp; omega)) (by simp only [D.size]; first | omega | (simp; omega))) ?_
   refine TL.cons rfl (Step.fieldAddr_e (j := 0) (off := 0) (n := 1) (one := true) rfl rfl (lt_ok rfl) (by kernel_rfl) (Nat.succ_ne_zero _) rfl (lt_ok rfl)) ?_
   refine TL.cons rfl (Step.load (e := (.int .i64 (b.getD i default).f0)) rfl rfl (lt_ok rfl) (by kernel_rfl) rfl ((cell_map default (by first | omega | (simp; omega))).trans rfl)) ?_
   refine TL.cons rfl (Step.move (p := (.one (.d (.int .i64 (k + cntL SHead.ce (a.take i)))))) rfl rfl (lt_ok rfl) rfl) ?_
   refine TL.cons rfl (Step.bin rfl rfl (lt_ok rfl) rfl rfl (Bin.neq (k := .i64) (a := (b.getD i default).f0) (b := (k + cntL SHead.ce (a.take i))))) ?_
   refine TL.nil ?_
   refine T.cond (b := decide ((b.getD i default).f0 ≠ (k + cntL SHead.ce (a.take i)))) rfl (fun h2 => ?_) (fun h2 => ?_)
   ·
    replace h2 := of_decide_eq_true h2
    refine T.seq ?_
    refine T.region ?_
    refine TL.cons rfl (Step.assign (p := (.one (.d (.int .i64 (-1))))) rfl rfl (lt_ok rfl) rfl) ?_
    refine TL.nil ?_
    refine T.ret ?_
    exact ⟨[(false, [.d (.int .i64 (-1))])], (.cons rfl .nil), rfl, [], (RetC.rd' (by first | (congr 1; rw [cntL_all (by omega)]) | (exfalso; omega)) .nil)⟩
   ·
    replace h2 := of_decide_eq_false h2
    refine T.skip ?_
    refine T.seq ?_
    refine T.region ?_
    refine TL.cons rfl (Step.move (p := (.one (.d (.int .i64 (k + cntL SHead.ce (a.take i)))))) rfl rfl (lt_ok rfl) rfl) ?_
    refine TL.cons rfl (Step.bin (r := .int .i64 ((k + cntL SHead.ce (a.take i)) + 1)) rfl rfl (lt_ok rfl) rfl rfl (Bin.add (a := (k + cntL SHead.ce (a.take i))) (b := 1) (by first | exact wrap_ok (by first | omega | (simp; omega)) (by first | omega | (simp; omega)) | rfl))) ?_
    refine TL.cons rfl (Step.assign (p := (.one (.d (.int .i64 ((k + cntL SHead.ce (a.take i)) + 1))))) rfl rfl (lt_ok rfl) rfl) ?_
    refine TL.nil ?_
    refine T.seq ?_
    refine T.seq ?_
    refine T.region ?_
    refine TL.cons rfl (Step.move (p := (.one (.d (.sl 10 (b.map SHead.cells))))) rfl rfl (lt_ok rfl) rfl) ?_
    refine TL.cons rfl (Step.move (p := (.one (.d (.int .i64 (i : Int))))) rfl rfl (lt_ok rfl) rfl) ?_
    refine TL.cons rfl (Step.index (e := 66) (z := 10) (i := (i : Int)) rfl rfl (lt_ok rfl) (by kernel_rfl) rfl rfl rfl (lt_ok rfl) rfl (by first | omega | (simp; omega)) (by simp only [D.size]; first | omega | (simp; omega))) ?_
    refine TL.cons rfl (Step.fieldAddr_e (j := 0) (off := 1) (n := 1) (one := true) rfl rfl (lt_ok rfl) (by kernel_rfl) (Nat.succ_ne_zero _) rfl (lt_ok rfl)) ?_
    refine TL.cons rfl (Step.load (e := (.int .i64 (b.getD i default).f1)) rfl rfl (lt_ok rfl) (by kernel_rfl) rfl ((cell_map default (by first | omega | (simp; omega))).trans rfl)) ?_
    refine TL.cons rfl (Step.move (p := (.one (.d (.int .i64 ((k + cntL SHead.ce (a.take i)) + 1))))) rfl rfl (lt_ok rfl) rfl) ?_
    refine TL.cons rfl (Step.bin rfl rfl (lt_ok rfl) rfl rfl (Bin.neq (k := .i64) (a := (b.getD i default).f1) (b := ((k + cntL SHead.ce (a.take i)) + 1)))) ?_
    refine TL.nil ?_
    refine T.cond (b := decide ((b.getD i default).f1 ≠ ((k + cntL SHead.ce (a.take i)) + 1))) rfl (fun h3 => ?_) (fun h3 => ?_)
    ·
     replace h3 := of_decide_eq_true h3
     refine T.seq ?_
     refine T.region ?_
     refine TL.cons rfl (Step.assign (p := (.one (.d (.int .i64 (-1))))) rfl rfl (lt_ok rfl) rfl) ?_
     refine TL.nil ?_
     refine T.ret ?_
     exact ⟨[(false, [.d (.int .i64 (-1))])], (.cons rfl .nil), rfl, [], (RetC.rd' (by first | (congr 1; rw [cntL_all (by omega)]) | (exfalso; omega)) .nil)⟩
    ·
     replace h3 := of_decide_eq_false h3
     refine T.skip ?_
     refine T.seq ?_
     refine T.region ?_
     refine TL.cons rfl (Step.move (p := (.one (.d (.int .i64 ((k + cntL SHead.ce (a.take i)) + 1))))) rfl rfl (lt_ok rfl) rfl) ?_
     refine TL.cons rfl (Step.bin (r := .int .i64 (((k + cntL SHead.ce (a.take i)) + 1) + 1)) rfl rfl (lt_ok rfl) rfl rfl (Bin.add (a := ((k + cntL SHead.ce (a.take i)) + 1)) (b := 1) (by first | exact wrap_ok (by first | omega | (simp; omega)) (by first | omega | (simp; omega)) | rfl))) ?_
     refine TL.cons rfl (Step.assign (p := (.one (.d (.int .i64 (((k + cntL SHead.ce (a.take i)) + 1) + 1))))) rfl rfl (lt_ok rfl) rfl) ?_
     refine TL.nil ?_
     refine T.seq ?_
     refine T.seq ?_
     refine T.region ?_
     refine TL.cons rfl (Step.move (p := (.one (.d (.sl 10 (b.map SHead.cells))))) rfl rfl (lt_ok rfl) rfl) ?_
     refine TL.cons rfl (Step.move (p := (.one (.d (.int .i64 (i : Int))))) rfl rfl (lt_ok rfl) rfl) ?_
     refine TL.cons rfl (Step.index (e := 66) (z := 10) (i := (i : Int)) rfl rfl (lt_ok rfl) (by kernel_rfl) rfl rfl rfl (lt_ok rfl) rfl (by first | omega | (simp; omega)) (by simp only [D.size]; first | omega | (simp; omega))) ?_
     refine TL.cons rfl (Step.fieldAddr_e (j := 0) (off := 2) (n := 1) (one := true) rfl rfl (lt_ok rfl) (by kernel_rfl) (Nat.succ_ne_zero _) rfl (lt_ok rfl)) ?_
     refine TL.cons rfl (Step.load (e := (.int .i64 (b.getD i default).f2)) rfl rfl (lt_ok rfl) (by kernel_rfl) rfl ((cell_map default (by first | omega | (simp; omega))).trans rfl)) ?_
     refine TL.cons rfl (Step.move (p := (.one (.d (.int .i64 (((k + cntL SHead.ce (a.take i)) + 1) + 1))))) rfl rfl (lt_ok rfl) rfl) ?_
     refine TL.cons rfl (Step.bin rfl rfl (lt_ok rfl) rfl rfl (Bin.neq (k := .i64) (a := (b.getD i default).f2) (b := (((k + cntL SHead.ce (a.take i)) + 1) + 1)))) ?_
     refine TL.nil ?_
     refine T.cond (b := decide ((b.getD i default).f2 ≠ (((k + cntL SHead.ce (a.take i)) + 1) + 1))) rfl (fun h4 => ?_) (fun h4 => ?_)
     ·
      replace h4 := of_decide_eq_true h4
      refine T.seq ?_
      refine T.region ?_
      refine TL.cons rfl (Step.assign (p := (.one (.d (.int .i64 (-1))))) rfl rfl (lt_ok rfl) rfl) ?_
      refine TL.nil ?_
      refine T.ret ?_
      exact ⟨[(false, [.d (.int .i64 (-1))])], (.cons rfl .nil), rfl, [], (RetC.rd' (by first | (congr 1; rw [cntL_all (by omega)]) | (exfalso; omega)) .nil)⟩
     ·
      replace h4 := of_decide_eq_false h4
      refine T.skip ?_
      refine T.seq ?_
      refine T.region ?_
      refine TL.cons rfl (Step.move (p := (.one (.d (.int .i64 (((k + cntL SHead.ce (a.take i)) + 1) + 1))))) rfl rfl (lt_ok rfl) rfl) ?_
      refine TL.cons rfl (Step.bin (r := .int .i64 ((((k + cntL SHead.ce (a.take i)) + 1) + 1) + 1)) rfl rfl (lt_ok rfl) rfl rfl (Bin.add (a := (((k + cntL SHead.ce (a.take i)) + 1) + 1)) (b := 1) (by first | exact wrap_ok (by first | omega | (simp; omega)) (by first | omega | (simp; omega)) | rfl))) ?_
      refine TL.cons rfl (Step.assign (p := (.one (.d (.int .i64 ((((k + cntL SHead.ce (a.take i)) + 1) + 1) + 1))))) rfl rfl (lt_ok rfl) rfl) ?_
      refine TL.nil ?_
      refine T.seq ?_
      refine T.region ?_
      refine TL.cons rfl (Step.move (p := (.one (.d (.sl 10 (b.map SHead.cells))))) rfl rfl (lt_ok rfl) rfl) ?_
      refine TL.cons rfl (Step.move (p := (.one (.d (.int .i64 (i : Int))))) rfl rfl (lt_ok rfl) rfl) ?_
      refine TL.cons rfl (Step.index (e := 66) (z := 10) (i := (i : Int)) rfl rfl (lt_ok rfl) (by kernel_rfl) rfl rfl rfl (lt_ok rfl) rfl (by first | omega | (simp; omega)) (by simp only [D.size]; first | omega | (simp; omega))) ?_
      refine TL.cons rfl (Step.fieldAddr_e (j := 0) (off := 3) (n := 1) (one := true) rfl rfl (lt_ok rfl) (by kernel_rfl) (Nat.succ_ne_zero _) rfl (lt_ok rfl)) ?_
      refine TL.cons rfl (Step.load (e := (.ints .u8 (b.getD i default).f3)) rfl rfl (lt_ok rfl) (by kernel_rfl) rfl ((cell_map default (by first | omega | (simp; omega))).trans rfl)) ?_
      refine TL.cons rfl (Step.move (p := (.one (.d (.int .i64 ((((k + cntL SHead.ce (a.take i)) + 1) + 1) + 1))))) rfl rfl (lt_ok rfl) rfl) ?_
      refine TL.cons rfl (Step.call (f := 33) (xs := [.tmp 43, .tmp 44]) (ps := [(.one (.d (.ints .u8 (b.getD i default).f3))), (.one (.d (.int .i64 ((((k + cntL SHead.ce (a.take i)) + 1) + 1) + 1))))]) false (g := .func 33) rfl rfl (lt_ok rfl) rfl (by kernel_rfl) rfl (.cons (.one (.d _)) (.cons (.one (.d _)) .nil)) (ok_laws_heldByteS (a.getD i default).f3 (b.getD i default).f3 ((((k + cntL SHead.ce (a.take i)) + 1) + 1) + 1) (by omega) (by first | omega | (have := (by assumption); omega)) (by first | rfl | assumption | (repeat' (first | rfl | apply And.intro)))) (.inr rfl) rfl (by simp) rfl) ?_
      refine TL.cons rfl (Step.assign (p := (.one (.d (.int .i64 (((((k + cntL SHead.ce (a.take i)) + 1) + 1) + 1) + ((a.getD i default).f3.length : Int)))))) rfl rfl (lt_ok rfl) rfl) ?_
      refine TL.nil ?_
      refine T.seq ?_
      refine T.seq ?_
      refine T.region ?_
      refine TL.cons rfl (Step.move (p := (.one (.d (.int .i64 (((((k + cntL SHead.ce (a.take i)) + 1) + 1) + 1) + ((a.getD i default).f3.length : Int)))))) rfl rfl (lt_ok rfl) rfl) ?_
      refine TL.cons rfl (Step.bin rfl rfl (lt_ok rfl) rfl rfl (Bin.lss (k := .i64) (a := (((((k + cntL SHead.ce (a.take i)) + 1) + 1) + 1) + ((a.getD i default).f3.length : Int))) (b := 0))) ?_
      refine TL.known 47 (c := false) (decide_eq_false (by omega)) rfl ?_
      refine TL.nil ?_
      refine T.cond (b := false) rfl (fun h5_ => absurd h5_ (by simp)) (fun h5_ => ?_)
      refine T.skip ?_
      refine T.seq ?_
      refine T.region ?_
      refine TL.cons rfl (Step.move (p := (.one (.d (.sl 10 (b.map SHead.cells))))) rfl rfl (lt_ok rfl) rfl) ?_
      refine TL.cons rfl (Step.move (p := (.one (.d (.int .i64 (i : Int))))) rfl rfl (lt_ok rfl) rfl) ?_
      refine TL.cons rfl (Step.index (e := 66) (z := 10) (i := (i : Int)) rfl rfl (lt_ok rfl) (by kernel_rfl) rfl rfl rfl (lt_ok rfl) rfl (by first | omega | (simp; omega)) (by simp only [D.size]; first | omega | (simp; omega))) ?_
      refine TL.cons rfl (Step.fieldAddr_e (j := 0) (off := 4) (n := 1) (one := true) rfl rfl (lt_ok rfl) (by kernel_rfl) (Nat.succ_ne_zero _) rfl (lt_ok rfl)) ?_
      refine TL.cons rfl (Step.load (e := (.ints .u8 (b.getD i default).f4)) rfl rfl (lt_ok rfl) (by kernel_rfl) rfl ((cell_map default (by first | omega | (simp; omega))).trans rfl)) ?_
      refine TL.cons rfl (Step.move (p := (.one (.d (.int .i64 (((((k + cntL SHead.ce (a.take i)) + 1) + 1) + 1) + ((a.getD i default).f3.length : Int)))))) rfl rfl (lt_ok rfl) rfl) ?_
      refine TL.cons rfl (Step.call (f := 33) (xs := [.tmp 52, .tmp 53]) (ps := [(.one (.d (.ints .u8 (b.getD i default).f4))), (.one (.d (.int .i64 (((((k + cntL SHead.ce (a.take i)) + 1) + 1) + 1) + ((a.getD i default).f3.length : Int)))))]) false (g := .func 33) rfl rfl (lt_ok rfl) rfl (by kernel_rfl) rfl (.cons (.one (.d _)) (.cons (.one (.d _)) .nil)) (ok_laws_heldByteS (a.getD i default).f4 (b.getD i default).f4 (((((k + cntL SHead.ce (a.take i)) + 1) + 1) + 1) + ((a.getD i default).f3.length : Int)) (by omega) (by first | omega | (have := (by assumption); omega)) (by first | rfl | assumption | (repeat' (first | rfl | apply And.intro)))) (.inr rfl) rfl (by simp) rfl) ?_
      refine TL.cons rfl (Step.assign (p := (.one (.d (.int .i64 ((((((k + cntL SHead.ce (a.take i)) + 1) + 1) + 1) + ((a.getD i default).f3.length : Int)) + ((a.getD i default).f4.length : Int)))))) rfl rfl (lt_ok rfl) rfl) ?_
      refine TL.nil ?_
      refine T.seq ?_
      refine T.seq ?_
      refine T.region ?_
      refine TL.cons rfl (Step.move (p := (.one (.d (.int .i64 ((((((k + cntL SHead.ce (a.take i)) + 1) + 1) + 1) + ((a.getD i default).f3.length : Int)) + ((a.getD i default).f4.length : Int)))))) rfl rfl (lt_ok rfl) rfl) ?_
      refine TL.cons rfl (Step.bin rfl rfl (lt_ok rfl) rfl rfl (Bin.lss (k := .i64) (a := ((((((k + cntL SHead.ce (a.take i)) + 1) + 1) + 1) + ((a.getD i default).f3.length : Int)) + ((a.getD i default).f4.length : Int))) (b := 0))) ?_
      refine TL.known 56 (c := false) (decide_eq_false (by omega)) rfl ?_
      refine TL.nil ?_
      refine T.cond (b := false) rfl (fun h6_ => absurd h6_ (by simp)) (fun h6_ => ?_)
      refine T.skip ?_
      refine T.seq ?_
      refine T.seq ?_
      refine T.region ?_
      refine TL.cons rfl (Step.move (p := (.one (.d (.sl 10 (b.map SHead.cells))))) rfl rfl (lt_ok rfl) rfl) ?_
      refine TL.cons rfl (Step.move (p := (.one (.d (.int .i64 (i : Int))))) rfl rfl (lt_ok rfl) rfl) ?_
      refine TL.cons rfl (Step.index (e := 66) (z := 10) (i := (i : Int)) rfl rfl (lt_ok rfl) (by kernel_rfl) rfl rfl rfl (lt_ok rfl) rfl (by first | omega | (simp; omega)) (by simp only [D.size]; first | omega | (simp; omega))) ?_
      refine TL.cons rfl (Step.fieldAddr_e (j := 0) (off := 5) (n := 5) (one := false) rfl rfl (lt_ok rfl) (by kernel_rfl) (Nat.succ_ne_zero _) rfl (lt_ok rfl)) ?_
      refine TL.cons rfl (Step.fieldAddr_e (j := 5) (off := 0) (n := 1) (one := true) rfl rfl (lt_ok rfl) (by kernel_rfl) (Nat.succ_ne_zero _) rfl (lt_ok rfl)) ?_
      refine TL.cons rfl (Step.load (e := (.int .i64 (b.getD i default).f5.f0)) rfl rfl (lt_ok rfl) (by kernel_rfl) rfl ((cell_map default (by first | omega | (simp; omega))).trans rfl)) ?_
      refine TL.cons rfl (Step.move (p := (.one (.d (.int .i64 ((((((k + cntL SHead.ce (a.take i)) + 1) + 1) + 1) + ((a.getD i default).f3.length : Int)) + ((a.getD i default).f4.length : Int)))))) rfl rfl (lt_ok rfl) rfl) ?_
      refine TL.cons rfl (Step.bin rfl rfl (lt_ok rfl) rfl rfl (Bin.neq (k := .i64) (a := (b.getD i default).f5.f0) (b := ((((((k + cntL SHead.ce (a.take i)) + 1) + 1) + 1) + ((a.getD i default).f3.length : Int)) + ((a.getD i default).f4.length : Int))))) ?_
      refine TL.nil ?_
      refine T.cond (b := decide ((b.getD i default).f5.f0 ≠ ((((((k + cntL SHead.ce (a.take i)) + 1) + 1) + 1) + ((a.getD i default).f3.length : Int)) + ((a.getD i default).f4.length : Int)))) rfl (fun h7 => ?_) (fun h7 => ?_)
      ·
       replace h7 := of_decide_eq_true h7
       refine T.seq ?_
       refine T.region ?_
       refine TL.cons rfl (Step.assign (p := (.one (.d (.int .i64 (-1))))) rfl rfl (lt_ok rfl) rfl) ?_
       refine TL.nil ?_
       refine T.ret ?_
       exact ⟨[(false, [.d (.int .i64 (-1))])], (.cons rfl .nil), rfl, [], (RetC.rd' (by first | (congr 1; rw [cntL_all (by omega)]) | (exfalso; omega)) .nil)⟩
      ·
       replace h7 := of_decide_eq_false h7
       refine T.skip ?_
       refine T.seq ?_
       refine T.region ?_
       refine TL.cons rfl (Step.move (p := (.one (.d (.int .i64 ((((((k + cntL SHead.ce (a.take i)) + 1) + 1) + 1) + ((a.getD i default).f3.length : Int)) + ((a.getD i default).f4.length : Int)))))) rfl rfl (lt_ok rfl) rfl) ?_
       refine TL.cons rfl (Step.bin (r := .int .i64 (((((((k + cntL SHead.ce (a.take i)) + 1) + 1) + 1) + ((a.getD i default).f3.length : Int)) + ((a.getD i default).f4.length : Int)) + 1)) rfl rfl (lt_ok rfl) rfl rfl (Bin.add (a := ((((((k + cntL SHead.ce (a.take i)) + 1) + 1) + 1) + ((a.getD i default).f3.length : Int)) + ((a.getD i default).f4.length : Int))) (b := 1) (by first | exact wrap_ok (by first | omega | (simp; omega)) (by first | omega | (simp; omega)) | rfl))) ?_
       refine TL.cons rfl (Step.assign (p := (.one (.d (.int .i64 (((((((k + cntL SHead.ce (a.take i)) + 1) + 1) + 1) + ((a.getD i default).f3.length : Int)) + ((a.getD i default).f4.length : Int)) + 1))))) rfl rfl (lt_ok rfl) rfl) ?_
       refine TL.nil ?_
       refine T.seq ?_
       refine T.seq ?_
       refine T.region ?_
       refine TL.cons rfl (Step.move (p := (.one (.d (.sl 10 (b.map SHead.cells))))) rfl rfl (lt_ok rfl) rfl) ?_
       refine TL.cons rfl (Step.move (p := (.one (.d (.int .i64 (i : Int))))) rfl rfl (lt_ok rfl) rfl) ?_
       refine TL.cons rfl (Step.index (e := 66) (z := 10) (i := (i : Int)) rfl rfl (lt_ok rfl) (by kernel_rfl) rfl rfl rfl (lt_ok rfl) rfl (by first | omega | (simp; omega)) (by simp only [D.size]; first | omega | (simp; omega))) ?_
       refine TL.cons rfl (Step.fieldAddr_e (j := 0) (off := 5) (n := 5) (one := false) rfl rfl (lt_ok rfl) (by kernel_rfl) (Nat.succ_ne_zero _) rfl (lt_ok rfl)) ?_
       refine TL.cons rfl (Step.fieldAddr_e (j := 5) (off := 1) (n := 1) (one := true) rfl rfl (lt_ok rfl) (by kernel_rfl) (Nat.succ_ne_zero _) rfl (lt_ok rfl)) ?_
       refine TL.cons rfl (Step.load (e := (.int .i64 (b.getD i default).f5.f1)) rfl rfl (lt_ok rfl) (by kernel_rfl) rfl ((cell_map default (by first | omega | (simp; omega))).trans rfl)) ?_
       refine TL.cons rfl (Step.move (p := (.one (.d (.int .i64 (((((((k + cntL SHead.ce (a.take i)) + 1) + 1) + 1) + ((a.getD i default).f3.length : Int)) + ((a.getD i default).f4.length : Int)) + 1))))) rfl rfl (lt_ok rfl) rfl) ?_
       refine TL.cons rfl (Step.bin rfl rfl (lt_ok rfl) rfl rfl (Bin.neq (k := .i64) (a := (b.getD i default).f5.f1) (b := (((((((k + cntL SHead.ce (a.take i)) + 1) + 1) + 1) + ((a.getD i default).f3.length : Int)) + ((a.getD i default).f4.length : Int)) + 1)))) ?_
       refine TL.nil ?_
       refine T.weaken (E' := { tm := [(0, (.one (.d (.sl 10 (b.map SHead.cells))))), (5, (.one (.d (.int .i64 (i : Int))))), (1, (.one (.d (.int .i64 (((((((k + cntL SHead.ce (a.take i)) + 1) + 1) + 1) + ((a.getD i default).f3.length : Int)) + ((a.getD i default).f4.length : Int)) + 1))))), (74, (.one (.d (.bool (decide ((b.getD i default).f5.f1 ≠ (((((((k + cntL SHead.ce (a.take i)) + 1) + 1) + 1) + ((a.getD i default).f3.length : Int)) + ((a.getD i default).f4.length : Int)) + 1)))))))], rows := [], boxes := [] }) (Env.le_mk ⟨by kernel_rfl, by kernel_rfl, by kernel_rfl, by kernel_rfl, trivial⟩ trivial trivial) ?_
       refine T.cond (b := decide ((b.getD i default).f5.f1 ≠ (((((((k + cntL SHead.ce (a.take i)) + 1) + 1) + 1) + ((a.getD i default).f3.length : Int)) + ((a.getD i default).f4.length : Int)) + 1))) rfl (fun h8 => ?_) (fun h8 => ?_)
       ·
        replace h8 := of_decide_eq_true h8
        refine T.seq ?_
        refine T.region ?_
        refine TL.cons rfl (Step.assign (p := (.one (.d (.int .i64 (-1))))) rfl rfl (lt_ok rfl) rfl) ?_
        refine TL.nil ?_
        refine T.ret ?_
        exact ⟨[(false, [.d (.int .i64 (-1))])], (.cons rfl .nil), rfl, [], (RetC.rd' (by first | (congr 1; rw [cntL_all (by omega)]) | (exfalso; omega)) .nil)⟩
       ·
        replace h8 := of_decide_eq_false h8
        refine T.skip ?_
        refine T.seq ?_
        refine T.region ?_
        refine TL.cons rfl (Step.move (p := (.one (.d (.int .i64 (((((((k + cntL SHead.ce (a.take i)) + 1) + 1) + 1) + ((a.getD i default).f3.length : Int)) + ((a.getD i default).f4.length : Int)) + 1))))) rfl rfl (lt_ok rfl) rfl) ?_
        refine TL.cons rfl (Step.bin (r := .int .i64 ((((((((k + cntL SHead.ce (a.take i)) + 1) + 1) + 1) + ((a.getD i default).f3.length : Int)) + ((a.getD i default).f4.length : Int)) + 1) + 1)) rfl rfl (lt_ok rfl) rfl rfl (Bin.add (a := (((((((k + cntL SHead.ce (a.take i)) + 1) + 1) + 1) + ((a.getD i default).f3.length : Int)) + ((a.getD i default).f4.length : Int)) + 1)) (b := 1) (by first | exact wrap_ok (by first | omega | (simp; omega)) (by first | omega | (simp; omega)) | rfl))) ?_
        refine TL.cons rfl (Step.assign (p := (.one (.d (.int .i64 ((((((((k + cntL SHead.ce (a.take i)) + 1) + 1) + 1) + ((a.getD i default).f3.length : Int)) + ((a.getD i default).f4.length : Int)) + 1) + 1))))) rfl rfl (lt_ok rfl) rfl) ?_
        refine TL.nil ?_
        refine T.seq ?_
        refine T.region ?_
        refine TL.cons rfl (Step.move (p := (.one (.d (.sl 10 (b.map SHead.cells))))) rfl rfl (lt_ok rfl) rfl) ?_
        refine TL.cons rfl (Step.move (p := (.one (.d (.int .i64 (i : Int))))) rfl rfl (lt_ok rfl) rfl) ?_
        refine TL.cons rfl (Step.index (e := 66) (z := 10) (i := (i : Int)) rfl rfl (lt_ok rfl) (by kernel_rfl) rfl rfl rfl (lt_ok rfl) rfl (by first | omega | (simp; omega)) (by simp only [D.size]; first | omega | (simp; omega))) ?_
        refine TL.cons rfl (Step.fieldAddr_e (j := 0) (off := 5) (n := 5) (one := false) rfl rfl (lt_ok rfl) (by kernel_rfl) (Nat.succ_ne_zero _) rfl (lt_ok rfl)) ?_
        refine TL.cons rfl (Step.fieldAddr_e (j := 5) (off := 2) (n := 1) (one := true) rfl rfl (lt_ok rfl) (by kernel_rfl) (Nat.succ_ne_zero _) rfl (lt_ok rfl)) ?_
        refine TL.cons rfl (Step.load (e := (.ints .u8 (b.getD i default).f5.f2)) rfl rfl (lt_ok rfl) (by kernel_rfl) rfl ((cell_map default (by first | omega | (simp; omega))).trans rfl)) ?_
        refine TL.cons rfl (Step.move (p := (.one (.d (.int .i64 ((((((((k + cntL SHead.ce (a.take i)) + 1) + 1) + 1) + ((a.getD i default).f3.length : Int)) + ((a.getD i default).f4.length : Int)) + 1) + 1))))) rfl rfl (lt_ok rfl) rfl) ?_
        refine TL.cons rfl (Step.call (f := 33) (xs := [.tmp 82, .tmp 83]) (ps := [(.one (.d (.ints .u8 (b.getD i default).f5.f2))), (.one (.d (.int .i64 ((((((((k + cntL SHead.ce (a.take i)) + 1) + 1) + 1) + ((a.getD i default).f3.length : Int)) + ((a.getD i default).f4.length : Int)) + 1) + 1))))]) false (g := .func 33) rfl rfl (lt_ok rfl) rfl (by kernel_rfl) rfl (.cons (.one (.d _)) (.cons (.one (.d _)) .nil)) (ok_laws_heldByteS (a.getD i default).f5.f2 (b.getD i default).f5.f2 ((((((((k + cntL SHead.ce (a.take i)) + 1) + 1) + 1) + ((a.getD i default).f3.length : Int)) + ((a.getD i default).f4.length : Int)) + 1) + 1) (by omega) (by first | omega | (have := (by assumption); omega)) (by first | rfl | assumption | (repeat' (first | rfl | apply And.intro)))) (.inr rfl) rfl (by simp) rfl) ?_
        refine TL.cons rfl (Step.assign (p := (.one (.d (.int .i64 (((((((((k + cntL SHead.ce (a.take i)) + 1) + 1) + 1) + ((a.getD i default).f3.length : Int)) + ((a.getD i default).f4.length : Int)) + 1) + 1) + ((a.getD i default).f5.f2.length : Int)))))) rfl rfl (lt_ok rfl) rfl) ?_
        refine TL.nil ?_
        refine T.seq ?_
        refine T.seq ?_
        refine T.region ?_
        refine TL.cons rfl (Step.move (p := (.one (.d (.int .i64 (((((((((k + cntL SHead.ce (a.take i)) + 1) + 1) + 1) + ((a.getD i default).f3.length : Int)) + ((a.getD i default).f4.length : Int)) + 1) + 1) + ((a.getD i default).f5.f2.length : Int)))))) rfl rfl (lt_ok rfl) rfl) ?_
        refine TL.cons rfl (Step.bin rfl rfl (lt_ok rfl) rfl rfl (Bin.lss (k := .i64) (a := (((((((((k + cntL SHead.ce (a.take i)) + 1) + 1) + 1) + ((a.getD i default).f3.length : Int)) + ((a.getD i default).f4.length : Int)) + 1) + 1) + ((a.getD i default).f5.f2.length : Int))) (b := 0))) ?_
        refine TL.known 86 (c := false) (decide_eq_false (by omega)) rfl ?_
        refine TL.nil ?_
        refine T.cond (b := false) rfl (fun h9_ => absurd h9_ (by simp)) (fun h9_ => ?_)
        refine T.skip ?_
        refine T.seq ?_
        refine T.region ?_
        refine TL.cons rfl (Step.move (p := (.one (.d (.sl 10 (b.map SHead.cells))))) rfl rfl (lt_ok rfl) rfl) ?_
        refine TL.cons rfl (Step.move (p := (.one (.d (.int .i64 (i : Int))))) rfl rfl (lt_ok rfl) rfl) ?_
        refine TL.cons rfl (Step.index (e := 66) (z := 10) (i := (i : Int)) rfl rfl (lt_ok rfl) (by kernel_rfl) rfl rfl rfl (lt_ok rfl) rfl (by first | omega | (simp; omega)) (by simp only [D.size]; first | omega | (simp; omega))) ?_
        refine TL.cons rfl (Step.fieldAddr_e (j := 0) (off := 5) (n := 5) (one := false) rfl rfl (lt_ok rfl) (by kernel_rfl) (Nat.succ_ne_zero _) rfl (lt_ok rfl)) ?_
        refine TL.cons rfl (Step.fieldAddr_e (j := 5) (off := 3) (n := 1) (one := true) rfl rfl (lt_ok rfl) (by kernel_rfl) (Nat.succ_ne_zero _) rfl (lt_ok rfl)) ?_
        refine TL.cons rfl (Step.load (e := (.ints .u8 (b.getD i default).f5.f3)) rfl rfl (lt_ok rfl) (by kernel_rfl) rfl ((cell_map default (by first | omega | (simp; omega))).trans rfl)) ?_
        refine TL.cons rfl (Step.move (p := (.one (.d (.int .i64 (((((((((k + cntL SHead.ce (a.take i)) + 1) + 1) + 1) + ((a.getD i default).f3.length : Int)) + ((a.getD i default).f4.length : Int)) + 1) + 1) + ((a.getD i default).f5.f2.length : Int)))))) rfl rfl (lt_ok rfl) rfl) ?_
        refine TL.cons rfl (Step.call (f := 33) (xs := [.tmp 92, .tmp 93]) (ps := [(.one (.d (.ints .u8 (b.getD i default).f5.f3))), (.one (.d (.int .i64 (((((((((k + cntL SHead.ce (a.take i)) + 1) + 1) + 1) + ((a.getD i default).f3.length : Int)) + ((a.getD i default).f4.length : Int)) + 1) + 1) + ((a.getD i default).f5.f2.length : Int)))))]) false (g := .func 33) rfl rfl (lt_ok rfl) rfl (by kernel_rfl) rfl (.cons (.one (.d _)) (.cons (.one (.d _)) .nil)) (ok_laws_heldByteS (a.getD i default).f5.f3 (b.getD i default).f5.f3 (((((((((k + cntL SHead.ce (a.take i)) + 1) + 1) + 1) + ((a.getD i default).f3.length : Int)) + ((a.getD i default).f4.length : Int)) + 1) + 1) + ((a.getD i default).f5.f2.length : Int)) (by omega) (by first | omega | (have := (by assumption); omega)) (by first | rfl | assumption | (repeat' (first | rfl | apply And.intro)))) (.inr rfl) rfl (by simp) rfl) ?_
        refine TL.cons rfl (Step.assign (p := (.one (.d (.int .i64 ((((((((((k + cntL SHead.ce (a.take i)) + 1) + 1) + 1) + ((a.getD i default).f3.length : Int)) + ((a.getD i default).f4.length : Int)) + 1) + 1) + ((a.getD i default).f5.f2.length : Int)) + ((a.getD i default).f5.f3.length : Int)))))) rfl rfl (lt_ok rfl) rfl) ?_
        refine TL.nil ?_
        refine T.seq ?_
        refine T.seq ?_
        refine T.region ?_
        refine TL.cons rfl (Step.move (p := (.one (.d (.int .i64 ((((((((((k + cntL SHead.ce (a.take i)) + 1) + 1) + 1) + ((a.getD i default).f3.length : Int)) + ((a.getD i default).f4.length : Int)) + 1) + 1) + ((a.getD i default).f5.f2.length : Int)) + ((a.getD i default).f5.f3.length : Int)))))) rfl rfl (lt_ok rfl) rfl) ?_
        refine TL.cons rfl (Step.bin rfl rfl (lt_ok rfl) rfl rfl (Bin.lss (k := .i64) (a := ((((((((((k + cntL SHead.ce (a.take i)) + 1) + 1) + 1) + ((a.getD i default).f3.length : Int)) + ((a.getD i default).f4.length : Int)) + 1) + 1) + ((a.getD i default).f5.f2.length : Int)) + ((a.getD i default).f5.f3.length : Int))) (b := 0))) ?_
        refine TL.known 96 (c := false) (decide_eq_false (by omega)) rfl ?_
        refine TL.nil ?_
        refine T.cond (b := false) rfl (fun h10_ => absurd h10_ (by simp)) (fun h10_ => ?_)
        refine T.skip ?_
        refine T.seq ?_
        refine T.region ?_
        refine TL.cons rfl (Step.move (p := (.one (.d (.sl 10 (b.map SHead.cells))))) rfl rfl (lt_ok rfl) rfl) ?_
        refine TL.cons rfl (Step.move (p := (.one (.d (.int .i64 (i : Int))))) rfl rfl (lt_ok rfl) rfl) ?_
        refine TL.cons rfl (Step.index (e := 66) (z := 10) (i := (i : Int)) rfl rfl (lt_ok rfl) (by kernel_rfl) rfl rfl rfl (lt_ok rfl) rfl (by first | omega | (simp; omega)) (by simp only [D.size]; first | omega | (simp; omega))) ?_
        refine TL.cons rfl (Step.fieldAddr_e (j := 0) (off := 5) (n := 5) (one := false) rfl rfl (lt_ok rfl) (by kernel_rfl) (Nat.succ_ne_zero _) rfl (lt_ok rfl)) ?_
        refine TL.cons rfl (Step.fieldAddr_e (j := 5) (off := 4) (n := 1) (one := true) rfl rfl (lt_ok rfl) (by kernel_rfl) (Nat.succ_ne_zero _) rfl (lt_ok rfl)) ?_
        refine TL.cons rfl (Step.load (e := (.bss (b.getD i default).f5.f4)) rfl rfl (lt_ok rfl) (by kernel_rfl) rfl ((cell_map default (by first | omega | (simp; omega))).trans rfl)) ?_
        refine TL.cons rfl (Step.move (p := (.one (.d (.int .i64 ((((((((((k + cntL SHead.ce (a.take i)) + 1) + 1) + 1) + ((a.getD i default).f3.length : Int)) + ((a.getD i default).f4.length : Int)) + 1) + 1) + ((a.getD i default).f5.f2.length : Int)) + ((a.getD i default).f5.f3.length : Int)))))) rfl rfl (lt_ok rfl) rfl) ?_
        have nn11 := cntBs_nonneg (a.getD i default).f5.f4
        refine TL.cons rfl (Step.call (f := 99) (xs := [.tmp 102, .tmp 103]) (ps := [(.one (.d (.bss (b.getD i default).f5.f4))), (.one (.d (.int .i64 ((((((((((k + cntL SHead.ce (a.take i)) + 1) + 1) + 1) + ((a.getD i default).f3.length : Int)) + ((a.getD i default).f4.length : Int)) + 1) + 1) + ((a.getD i default).f5.f2.length : Int)) + ((a.getD i default).f5.f3.length : Int)))))]) false (g := .func 99) rfl rfl (lt_ok rfl) rfl (by kernel_rfl) rfl (.cons (.one (.d _)) (.cons (.one (.d _)) .nil)) (ok_laws_heldByteSS (a.getD i default).f5.f4 (b.getD i default).f5.f4 ((((((((((k + cntL SHead.ce (a.take i)) + 1) + 1) + 1) + ((a.getD i default).f3.length : Int)) + ((a.getD i default).f4.length : Int)) + 1) + 1) + ((a.getD i default).f5.f2.length : Int)) + ((a.getD i default).f5.f3.length : Int)) (by omega) (by first | omega | (have := cntBs_le (xs := (a.getD i default).f5.f4) (by assumption); omega)) (by first | rfl | assumption | (repeat' (first | rfl | apply And.intro)))) (.inr rfl) rfl (by simp) rfl) ?_
        refine TL.cons rfl (Step.assign (p := (.one (.d (.int .i64 (((((((((((k + cntL SHead.ce (a.take i)) + 1) + 1) + 1) + ((a.getD i default).f3.length : Int)) + ((a.getD i default).f4.length : Int)) + 1) + 1) + ((a.getD i default).f5.f2.length : Int)) + ((a.getD i default).f5.f3.length : Int)) + cntL (fun x : List Int => (x.length : Int)) (a.getD i default).f5.f4))))) rfl rfl (lt_ok rfl) rfl) ?_
        refine TL.nil ?_
        refine T.seq ?_
        refine T.region ?_
        refine TL.cons rfl (Step.move (p := (.one (.d (.int .i64 (((((((((((k + cntL SHead.ce (a.take i)) + 1) + 1) + 1) + ((a.getD i default).f3.length : Int)) + ((a.getD i default).f4.length : Int)) + 1) + 1) + ((a.getD i default).f5.f2.length : Int)) + ((a.getD i default).f5.f3.length : Int)) + cntL (fun x : List Int => (x.length : Int)) (a.getD i default).f5.f4))))) rfl rfl (lt_ok rfl) rfl) ?_
        refine TL.cons rfl (Step.bin rfl rfl (lt_ok rfl) rfl rfl (Bin.lss (k := .i64) (a := (((((((((((k + cntL SHead.ce (a.take i)) + 1) + 1) + 1) + ((a.getD i default).f3.length : Int)) + ((a.getD i default).f4.length : Int)) + 1) + 1) + ((a.getD i default).f5.f2.length : Int)) + ((a.getD i default).f5.f3.length : Int)) + cntL (fun x : List Int => (x.length : Int)) (a.getD i default).f5.f4)) (b := 0))) ?_
        refine TL.known 106 (c := false) (decide_eq_false (by omega)) rfl ?_
        refine TL.nil ?_
        refine T.cond (b := false) rfl (fun h12_ => absurd h12_ (by simp)) (fun h12_ => ?_)
        refine T.skip ?_
        refine T.region ?_
        refine TL.cons rfl (Step.move (p := (.one (.d (.int .i64 (i : Int))))) rfl rfl (lt_ok rfl) rfl) ?_
        refine TL.cons rfl (Step.bin (r := .int .i64 ((i : Int) + 1)) rfl rfl (lt_ok rfl) rfl rfl (Bin.add (a := (i : Int)) (b := 1) (by first | exact wrap_ok (by first | omega | (simp; omega)) (by first | omega | (simp; omega)) | rfl))) ?_
        refine TL.cons rfl (Step.assign (p := (.one (.d (.int .i64 ((i : Int) + 1))))) rfl rfl (lt_ok rfl) rfl) ?_
        refine TL.nil ?_
        exact ⟨i + 1, by omega, by first | omega | (dsimp only; omega), Env.le_mk ⟨rfl, by first | rfl | (refine congrArg (fun n => PV.one (.d (.int .i64 n))) ?_; first | omega | (simp; done) | (simp [cntL]; done)), by first | rfl | (refine congrArg (fun n => PV.one (.d (.int .i64 n))) ?_; first | omega | (simp; done) | (simp [cntL]; done)), trivial⟩ trivial trivial⟩
  ·
   replace h1 := of_decide_eq_false h1
   refine T.exit ?_
   refine T.seq ?_
   refine T.region ?_
   refine TL.cons rfl (Step.move (p := (.one (.d (.int .i64 (k + cntL SHead.ce (a.take i)))))) rfl rfl (lt_ok rfl) rfl) ?_
   refine TL.cons rfl (Step.assign (p := (.one (.d (.int .i64 (k + cntL SHead.ce (a.take i)))))) rfl rfl (lt_ok rfl) rfl) ?_
   refine TL.nil ?_
   refine T.ret ?_
   exact ⟨[(false, [.d (.int .i64 (k + cntL SHead.ce (a.take i)))])], (.cons rfl .nil), rfl, [], (RetC.rd' (by first | (congr 1; rw [cntL_all (by omega)]) | (exfalso; omega)) .nil)⟩
theorem ok_laws_heldProof (a : SProof) (b : SProof) (k : Int) (h0_ : 0 ≤ k) (h1_ : k + a.cm ≤ 4611686018427387904) (h2_ : SProof.hm a b k) : RO Try.prog 106 [.agg b.cells, .one (.int .i64 k)] [(false, [.rd (.int .i64 (k + a.cm))])] := by
 refine RO.intro Try.func106 rfl 18 rfl (le_ok rfl) fun w Z => ?_
 obtain ⟨p0, p1⟩ := h2_
 have n0 := cntL_nonneg SHead.ce_nn a.f0
 have n1 := SQc.cm_nn a.f1
 simp only [SProof.cm] at h1_
 refine T.seq ?_
 refine T.region ?_
 refine TL.cons rfl (Step.box (p := (.agg [.d (.sl 10 (b.f0.map SHead.cells)), .d (.int .i64 b.f1.f0), .d (.int .i64 b.f1.f1), .d (.ints .u8 b.f1.f2), .d (.ints .u8 b.f1.f3), .d (.bss b.f1.f4)])) (ps := [.d (.sl 10 (b.f0.map SHead.cells)), .d (.int .i64 b.f1.f0), .d (.int .i64 b.f1.f1), .d (.ints .u8 b.f1.f2), .d (.ints .u8 b.f1.f3), .d (.bss b.f1.f4)]) rfl rfl (lt_ok rfl) rfl rfl rfl rfl rfl) ?_
 refine TL.cons rfl (Step.assign (p := (.one (.d (.int .i64 0)))) rfl rfl (lt_ok rfl) rfl) ?_
 refine TL.nil ?_
 refine T.seq ?_
 refine T.region ?_
 refine TL.cons rfl (Step.fieldAddr (q := 0) (off := 0) (n := 1) (one := true) rfl rfl (lt_ok rfl) (by kernel_rfl) (Nat.succ_ne_zero _) rfl) ?_
 refine TL.cons rfl (Step.load_box (c := .d (.sl 10 (b.f0.map SHead.cells))) rfl rfl (lt_ok rfl) (by kernel_rfl) rfl rfl rfl) ?_
 refine TL.cons rfl (Step.move (p := (.one (.d (.int .i64 k)))) rfl rfl (lt_ok rfl) rfl) ?_
 have nn1 := cntL_nonneg SHead.ce_nn a.f0
 refine TL.cons rfl (Step.call (f := 158) (xs := [.tmp 6, .tmp 7]) (ps := [(.one (.d (.sl 10 (b.f0.map SHead.cells)))), (.one (.d (.int .i64 k)))]) false (g := .func 158) rfl rfl (lt_ok rfl) rfl (by kernel_rfl) rfl (.cons (.one (.d _)) (.cons (.one (.d _)) .nil)) (ok_laws_heldHeadS a.f0 b.f0 k (by omega) (by first | omega | (have := SHead.cL_le (xs := a.f0) (by assumption); omega)) (by first | rfl | assumption | (repeat' (first | rfl | apply And.intro)))) (.inr rfl) rfl (by simp) rfl) ?_
 refine TL.cons rfl (Step.assign (p := (.one (.d (.int .i64 (k + cntL SHead.ce a.f0))))) rfl rfl (lt_ok rfl) rfl) ?_
 refine TL.nil ?_
 refine T.seq ?_
 refine T.seq ?_
 refine T.region ?_
 refine TL.cons rfl (Step.move (p := (.one (.d (.int .i64 (k + cntL SHead.ce a.f0))))) rfl rfl (lt_ok rfl) rfl) ?_
 refine TL.cons rfl (Step.bin rfl rfl (lt_ok rfl) rfl rfl (Bin.lss (k := .i64) (a := (k + cntL SHead.ce a.f0)) (b := 0))) ?_
 refine TL.known 10 (c := false) (decide_eq_false (by omega)) rfl ?_
 refine TL.nil ?_
 refine T.cond (b := false) rfl (fun h2_ => absurd h2_ (by simp)) (fun h2_ => ?_)
 refine T.skip ?_
 refine T.seq ?_
 refine T.region ?_
 refine TL.cons rfl (Step.fieldAddr (q := 0) (off := 1) (n := 5) (one := false) rfl rfl (lt_ok rfl) (by kernel_rfl) (Nat.succ_ne_zero _) rfl) ?_
 refine TL.cons rfl (Step.load_box_agg (n := 5) (qs := [.d (.int .i64 b.f1.f0), .d (.int .i64 b.f1.f1), .d (.ints .u8 b.f1.f2), .d (.ints .u8 b.f1.f3), .d (.bss b.f1.f4)]) rfl rfl (lt_ok rfl) (by kernel_rfl) rfl rfl rfl rfl) ?_
 refine TL.cons rfl (Step.move (p := (.one (.d (.int .i64 (k + cntL SHead.ce a.f0))))) rfl rfl (lt_ok rfl) rfl) ?_
 have nn3 := SQc.cm_nn a.f1
 refine TL.cons rfl (Step.call (f := 38) (xs := [.tmp 12, .tmp 13]) (ps := [(.agg [.d (.int .i64 b.f1.f0), .d (.int .i64 b.f1.f1), .d (.ints .u8 b.f1.f2), .d (.ints .u8 b.f1.f3), .d (.bss b.f1.f4)]), (.one (.d (.int .i64 (k + cntL SHead.ce a.f0))))]) false (g := .func 38) rfl rfl (lt_ok rfl) rfl (by kernel_rfl) rfl (.cons (.agg (.cons (.d _) (.cons (.d _) (.cons (.d _) (.cons (.d _) (.cons (.d _) .nil)))))) (.cons (.one (.d _)) .nil)) (ok_laws_heldQc a.f1 b.f1 (k + cntL SHead.ce a.f0) (by omega) (by first | omega | (have := SQc.cm_le (x := a.f1) (by assumption); omega)) (by first | rfl | assumption | (repeat' (first | rfl | apply And.intro)))) (.inr rfl) rfl (by simp) rfl) ?_
 refine TL.cons rfl (Step.assign (p := (.one (.d (.int .i64 ((k + cntL SHead.ce a.f0) + a.f1.cm))))) rfl rfl (lt_ok rfl) rfl) ?_
 refine TL.nil ?_
 refine T.seq ?_
 refine T.seq ?_
 refine T.region ?_
 refine TL.cons rfl (Step.move (p := (.one (.d (.int .i64 ((k + cntL SHead.ce a.f0) + a.f1.cm))))) rfl rfl (lt_ok rfl) rfl) ?_
 refine TL.cons rfl (Step.bin rfl rfl (lt_ok rfl) rfl rfl (Bin.lss (k := .i64) (a := ((k + cntL SHead.ce a.f0) + a.f1.cm)) (b := 0))) ?_
 refine TL.known 16 (c := false) (decide_eq_false (by omega)) rfl ?_
 refine TL.nil ?_
 refine T.cond (b := false) rfl (fun h4_ => absurd h4_ (by simp)) (fun h4_ => ?_)
 refine T.skip ?_
 refine T.seq ?_
 refine T.region ?_
 refine TL.cons rfl (Step.move (p := (.one (.d (.int .i64 ((k + cntL SHead.ce a.f0) + a.f1.cm))))) rfl rfl (lt_ok rfl) rfl) ?_
 refine TL.cons rfl (Step.assign (p := (.one (.d (.int .i64 ((k + cntL SHead.ce a.f0) + a.f1.cm))))) rfl rfl (lt_ok rfl) rfl) ?_
 refine TL.nil ?_
 refine T.ret ?_
 exact ⟨[(false, [.d (.int .i64 ((k + cntL SHead.ce a.f0) + a.f1.cm))])], (.cons rfl .nil), rfl, [], (RetC.rd' (by first | rfl | (congr 1; simp only [SProof.cm]; omega)) .nil)⟩
theorem ok_laws_heldMsg (a : SMsg) (b : SMsg) (k : Int) (h0_ : 0 ≤ k) (h1_ : k + a.cm ≤ 4611686018427387904) (h2_ : SMsg.hm a b k) : RO Try.prog 47 [.agg b.cells, .one (.int .i64 k)] [(false, [.rd (.int .i64 (k + a.cm))])] := by
 refine RO.intro Try.func47 rfl 48 rfl (le_ok rfl) fun w Z => ?_
 obtain ⟨p1, p2, p3, p4, p5, p6, p7⟩ := h2_
 have n1 := SVote.cm_nn a.f1
 have n2 := SQc.cm_nn a.f2
 have n3 := SHead.cm_nn a.f3
 have n4 := SBlock.cm_nn a.f4
 have n5 := STc.cm_nn a.f5
 have n6 := SProof.cm_nn a.f6
 have n7 := SIncl.cm_nn a.f7
 simp only [SMsg.cm] at h1_
 refine T.seq ?_
 refine T.region ?_
 refine TL.cons rfl (Step.box (p := (.agg [.d (.int .i64 b.f0), .d (.int .i64 b.f1.f0), .d (.int .i64 b.f1.f1), .d (.ints .u8 b.f1.f2), .d (.int .i64 b.f1.f3), .d (.ints .u8 b.f1.f4), .d (.int .i64 b.f2.f0), .d (.int .i64 b.f2.f1), .d (.ints .u8 b.f2.f2), .d (.ints .u8 b.f2.f3), .d (.bss b.f2.f4), .d (.int .i64 b.f3.f0), .d (.int .i64 b.f3.f1), .d (.int .i64 b.f3.f2), .d (.ints .u8 b.f3.f3), .d (.ints .u8 b.f3.f4), .d (.int .i64 b.f3.f5.f0), .d (.int .i64 b.f3.f5.f1), .d (.ints .u8 b.f3.f5.f2), .d (.ints .u8 b.f3.f5.f3), .d (.bss b.f3.f5.f4), .d (.int .i64 b.f4.f0.f0), .d (.int .i64 b.f4.f0.f1), .d (.int .i64 b.f4.f0.f2), .d (.ints .u8 b.f4.f0.f3), .d (.ints .u8 b.f4.f0.f4), .d (.int .i64 b.f4.f0.f5.f0), .d (.int .i64 b.f4.f0.f5.f1), .d (.ints .u8 b.f4.f0.f5.f2), .d (.ints .u8 b.f4.f0.f5.f3), .d (.bss b.f4.f0.f5.f4), .d (.bss b.f4.f1), .d (.int .i64 b.f5.f0), .d (.sl 3 (b.f5.f1.map SEntry.cells)), .d (.sl 10 (b.f6.f0.map SHead.cells)), .d (.int .i64 b.f6.f1.f0), .d (.int .i64 b.f6.f1.f1), .d (.ints .u8 b.f6.f1.f2), .d (.ints .u8 b.f6.f1.f3), .d (.bss b.f6.f1.f4), .d (.int .i64 b.f7.f0), .d (.int .i64 b.f7.f1), .d (.int .i64 b.f7.f2), .d (.ints .u8 b.f7.f3), .d (.bss b.f7.f4)])) (ps := [.d (.int .i64 b.f0), .d (.int .i64 b.f1.f0), .d (.int .i64 b.f1.f1), .d (.ints .u8 b.f1.f2), .d (.int .i64 b.f1.f3), .d (.ints .u8 b.f1.f4), .d (.int .i64 b.f2.f0), .d (.int .i64 b.f2.f1), .d (.ints .u8 b.f2.f2), .d (.ints .u8 b.f2.f3), .d (.bss b.f2.f4), .d (.int .i64 b.f3.f0), .d (.int .i64 b.f3.f1), .d (.int .i64 b.f3.f2), .d (.ints .u8 b.f3.f3), .d (.ints .u8 b.f3.f4), .d (.int .i64 b.f3.f5.f0), .d (.int .i64 b.f3.f5.f1), .d (.ints .u8 b.f3.f5.f2), .d (.ints .u8 b.f3.f5.f3), .d (.bss b.f3.f5.f4), .d (.int .i64 b.f4.f0.f0), .d (.int .i64 b.f4.f0.f1), .d (.int .i64 b.f4.f0.f2), .d (.ints .u8 b.f4.f0.f3), .d (.ints .u8 b.f4.f0.f4), .d (.int .i64 b.f4.f0.f5.f0), .d (.int .i64 b.f4.f0.f5.f1), .d (.ints .u8 b.f4.f0.f5.f2), .d (.ints .u8 b.f4.f0.f5.f3), .d (.bss b.f4.f0.f5.f4), .d (.bss b.f4.f1), .d (.int .i64 b.f5.f0), .d (.sl 3 (b.f5.f1.map SEntry.cells)), .d (.sl 10 (b.f6.f0.map SHead.cells)), .d (.int .i64 b.f6.f1.f0), .d (.int .i64 b.f6.f1.f1), .d (.ints .u8 b.f6.f1.f2), .d (.ints .u8 b.f6.f1.f3), .d (.bss b.f6.f1.f4), .d (.int .i64 b.f7.f0), .d (.int .i64 b.f7.f1), .d (.int .i64 b.f7.f2), .d (.ints .u8 b.f7.f3), .d (.bss b.f7.f4)]) rfl rfl (lt_ok rfl) rfl rfl rfl rfl rfl) ?_
 refine TL.cons rfl (Step.assign (p := (.one (.d (.int .i64 0)))) rfl rfl (lt_ok rfl) rfl) ?_
 refine TL.nil ?_
 refine T.seq ?_
 refine T.region ?_
 refine TL.cons rfl (Step.fieldAddr (q := 0) (off := 1) (n := 5) (one := false) rfl rfl (lt_ok rfl) (by kernel_rfl) (Nat.succ_ne_zero _) rfl) ?_
 refine TL.cons rfl (Step.load_box_agg (n := 5) (qs := [.d (.int .i64 b.f1.f0), .d (.int .i64 b.f1.f1), .d (.ints .u8 b.f1.f2), .d (.int .i64 b.f1.f3), .d (.ints .u8 b.f1.f4)]) rfl rfl (lt_ok rfl) (by kernel_rfl) rfl rfl rfl rfl) ?_
 refine TL.cons rfl (Step.move (p := (.one (.d (.int .i64 k)))) rfl rfl (lt_ok rfl) rfl) ?_
 have nn1 := SVote.cm_nn a.f1
 refine TL.cons rfl (Step.call (f := 69) (xs := [.tmp 6, .tmp 7]) (ps := [(.agg [.d (.int .i64 b.f1.f0), .d (.int .i64 b.f1.f1), .d (.ints .u8 b.f1.f2), .d (.int .i64 b.f1.f3), .d (.ints .u8 b.f1.f4)]), (.one (.d (.int .i64 k)))]) false (g := .func 69) rfl rfl (lt_ok rfl) rfl (by kernel_rfl) rfl (.cons (.agg (.cons (.d _) (.cons (.d _) (.cons (.d _) (.cons (.d _) (.cons (.d _) .nil)))))) (.cons (.one (.d _)) .nil)) (ok_laws_heldVote a.f1 b.f1 k (by omega) (by first | omega | (have := SVote.cm_le (x := a.f1) (by assumption); omega)) (by first | rfl | assumption | (repeat' (first | rfl | apply And.intro)))) (.inr rfl) rfl (by simp) rfl) ?_
 refine TL.cons rfl (Step.assign (p := (.one (.d (.int .i64 (k + a.f1.cm))))) rfl rfl (lt_ok rfl) rfl) ?_
 refine TL.nil ?_
 refine T.seq ?_
 refine T.seq ?_
 refine T.region ?_
 refine TL.cons rfl (Step.move (p := (.one (.d (.int .i64 (k + a.f1.cm))))) rfl rfl (lt_ok rfl) rfl) ?_
 refine TL.cons rfl (Step.bin rfl rfl (lt_ok rfl) rfl rfl (Bin.lss (k := .i64) (a := (k + a.f1.cm)) (b := 0))) ?_
 refine TL.known 10 (c := false) (decide_eq_false (by omega)) rfl ?_
 refine TL.nil ?_
 refine T.cond (b := false) rfl (fun h2_ => absurd h2_ (by simp)) (fun h2_ => ?_)
 refine T.skip ?_
 refine T.seq ?_
 refine T.region ?_
 refine TL.cons rfl (Step.fieldAddr (q := 0) (off := 6) (n := 5) (one := false) rfl rfl (lt_ok rfl) (by kernel_rfl) (Nat.succ_ne_zero _) rfl) ?_
 refine TL.cons rfl (Step.load_box_agg (n := 5) (qs := [.d (.int .i64 b.f2.f0), .d (.int .i64 b.f2.f1), .d (.ints .u8 b.f2.f2), .d (.ints .u8 b.f2.f3), .d (.bss b.f2.f4)]) rfl rfl (lt_ok rfl) (by kernel_rfl) rfl rfl rfl rfl) ?_
 refine TL.cons rfl (Step.move (p := (.one (.d (.int .i64 (k + a.f1.cm))))) rfl rfl (lt_ok rfl) rfl) ?_
 have nn3 := SQc.cm_nn a.f2
 refine TL.cons rfl (Step.call (f := 38) (xs := [.tmp 12, .tmp 13]) (ps := [(.agg [.d (.int .i64 b.f2.f0), .d (.int .i64 b.f2.f1), .d (.ints .u8 b.f2.f2), .d (.ints .u8 b.f2.f3), .d (.bss b.f2.f4)]), (.one (.d (.int .i64 (k + a.f1.cm))))]) false (g := .func 38) rfl rfl (lt_ok rfl) rfl (by kernel_rfl) rfl (.cons (.agg (.cons (.d _) (.cons (.d _) (.cons (.d _) (.cons (.d _) (.cons (.d _) .nil)))))) (.cons (.one (.d _)) .nil)) (ok_laws_heldQc a.f2 b.f2 (k + a.f1.cm) (by omega) (by first | omega | (have := SQc.cm_le (x := a.f2) (by assumption); omega)) (by first | rfl | assumption | (repeat' (first | rfl | apply And.intro)))) (.inr rfl) rfl (by simp) rfl) ?_
 refine TL.cons rfl (Step.assign (p := (.one (.d (.int .i64 ((k + a.f1.cm) + a.f2.cm))))) rfl rfl (lt_ok rfl) rfl) ?_
 refine TL.nil ?_
 refine T.weaken (E' := { tm := [(1, (.one (.d (.int .i64 ((k + a.f1.cm) + a.f2.cm))))), (2, (.one (.ptr 2 0))), (4, (.one (.d (.int .i64 0))))], rows := [], boxes := [(2, (75, [.d (.int .i64 b.f0), .d (.int .i64 b.f1.f0), .d (.int .i64 b.f1.f1), .d (.ints .u8 b.f1.f2), .d (.int .i64 b.f1.f3), .d (.ints .u8 b.f1.f4), .d (.int .i64 b.f2.f0), .d (.int .i64 b.f2.f1), .d (.ints .u8 b.f2.f2), .d (.ints .u8 b.f2.f3), .d (.bss b.f2.f4), .d (.int .i64 b.f3.f0), .d (.int .i64 b.f3.f1), .d (.int .i64 b.f3.f2), .d (.ints .u8 b.f3.f3), .d (.ints .u8 b.f3.f4), .d (.int .i64 b.f3.f5.f0), .d (.int .i64 b.f3.f5.f1), .d (.ints .u8 b.f3.f5.f2), .d (.ints .u8 b.f3.f5.f3), .d (.bss b.f3.f5.f4), .d (.int .i64 b.f4.f0.f0), .d (.int .i64 b.f4.f0.f1), .d (.int .i64 b.f4.f0.f2), .d (.ints .u8 b.f4.f0.f3), .d (.ints .u8 b.f4.f0.f4), .d (.int .i64 b.f4.f0.f5.f0), .d (.int .i64 b.f4.f0.f5.f1), .d (.ints .u8 b.f4.f0.f5.f2), .d (.ints .u8 b.f4.f0.f5.f3), .d (.bss b.f4.f0.f5.f4), .d (.bss b.f4.f1), .d (.int .i64 b.f5.f0), .d (.sl 3 (b.f5.f1.map SEntry.cells)), .d (.sl 10 (b.f6.f0.map SHead.cells)), .d (.int .i64 b.f6.f1.f0), .d (.int .i64 b.f6.f1.f1), .d (.ints .u8 b.f6.f1.f2), .d (.ints .u8 b.f6.f1.f3), .d (.bss b.f6.f1.f4), .d (.int .i64 b.f7.f0), .d (.int .i64 b.f7.f1), .d (.int .i64 b.f7.f2), .d (.ints .u8 b.f7.f3), .d (.bss b.f7.f4)]))] }) (Env.le_mk ⟨by kernel_rfl, by kernel_rfl, by kernel_rfl, trivial⟩ trivial ⟨by kernel_rfl, trivial⟩) ?_
 refine T.seq ?_
 refine T.seq ?_
 refine T.region ?_
 refine TL.cons rfl (Step.move (p := (.one (.d (.int .i64 ((k + a.f1.cm) + a.f2.cm))))) rfl rfl (lt_ok rfl) rfl) ?_
 refine TL.cons rfl (Step.bin rfl rfl (lt_ok rfl) rfl rfl (Bin.lss (k := .i64) (a := ((k + a.f1.cm) + a.f2.cm)) (b := 0))) ?_
 refine TL.known 16 (c := false) (decide_eq_false (by omega)) rfl ?_
 refine TL.nil ?_
 refine T.cond (b := false) rfl (fun h4_ => absurd h4_ (by simp)) (fun h4_ => ?_)
 refine T.skip ?_
 refine T.seq ?_
 refine T.region ?_
 refine TL.cons rfl (Step.fieldAddr (q := 0) (off := 11) (n := 10) (one := false) rfl rfl (lt_ok rfl) (by kernel_rfl) (Nat.succ_ne_zero _) rfl) ?_
 refine TL.cons rfl (Step.load_box_agg (n := 10) (qs := [.d (.int .i64 b.f3.f0), .d (.int .i64 b.f3.f1), .d (.int .i64 b.f3.f2), .d (.ints .u8 b.f3.f3), .d (.ints .u8 b.f3.f4), .d (.int .i64 b.f3.f5.f0), .d (.int .i64 b.f3.f5.f1), .d (.ints .u8 b.f3.f5.f2), .d (.ints .u8 b.f3.f5.f3), .d (.bss b.f3.f5.f4)]) rfl rfl (lt_ok rfl) (by kernel_rfl) rfl rfl rfl rfl) ?_
 refine TL.cons rfl (Step.move (p := (.one (.d (.int .i64 ((k + a.f1.cm) + a.f2.cm))))) rfl rfl (lt_ok rfl) rfl) ?_
 have nn5 := SHead.cm_nn a.f3
 refine TL.cons rfl (Step.call (f := 104) (xs := [.tmp 18, .tmp 19]) (ps := [(.agg [.d (.int .i64 b.f3.f0), .d (.int .i64 b.f3.f1), .d (.int .i64 b.f3.f2), .d (.ints .u8 b.f3.f3), .d (.ints .u8 b.f3.f4), .d (.int .i64 b.f3.f5.f0), .d (.int .i64 b.f3.f5.f1), .d (.ints .u8 b.f3.f5.f2), .d (.ints .u8 b.f3.f5.f3), .d (.bss b.f3.f5.f4)]), (.one (.d (.int .i64 ((k + a.f1.cm) + a.f2.cm))))]) false (g := .func 104) rfl rfl (lt_ok rfl) rfl (by kernel_rfl) rfl (.cons (.agg (.cons (.d _) (.cons (.d _) (.cons (.d _) (.cons (.d _) (.cons (.d _) (.cons (.d _) (.cons (.d _) (.cons (.d _) (.cons (.d _) (.cons (.d _) .nil))))))))))) (.cons (.one (.d _)) .nil)) (ok_laws_heldHead a.f3 b.f3 ((k + a.f1.cm) + a.f2.cm) (by omega) (by first | omega | (have := SHead.cm_le (x := a.f3) (by assumption); omega)) (by first | rfl | assumption | (repeat' (first | rfl | apply And.intro)))) (.inr rfl) rfl (by simp) rfl) ?_
 refine TL.cons rfl (Step.assign (p := (.one (.d (.int .i64 (((k + a.f1.cm) + a.f2.cm) + a.f3.cm))))) rfl rfl (lt_ok rfl) rfl) ?_
 refine TL.nil ?_
 refine T.seq ?_
 refine T.seq ?_
 refine T.region ?_
 refine TL.cons rfl (Step.move (p := (.one (.d (.int .i64 (((k + a.f1.cm) + a.f2.cm) + a.f3.cm))))) rfl rfl (lt_ok rfl) rfl) ?_
 refine TL.cons rfl (Step.bin rfl rfl (lt_ok rfl) rfl rfl (Bin.lss (k := .i64) (a := (((k + a.f1.cm) + a.f2.cm) + a.f3.cm)) (b := 0))) ?_
 refine TL.known 22 (c := false) (decide_eq_false (by omega)) rfl ?_
 refine TL.nil ?_
 refine T.cond (b := false) rfl (fun h6_ => absurd h6_ (by simp)) (fun h6_ => ?_)
 refine T.skip ?_
 refine T.seq ?_
 refine T.region ?_
 refine TL.cons rfl (Step.fieldAddr (q := 0) (off := 21) (n := 11) (one := false) rfl rfl (lt_ok rfl) (by kernel_rfl) (Nat.succ_ne_zero _) rfl) ?_
 refine TL.cons rfl (Step.load_box_agg (n := 11) (qs := [.d (.int .i64 b.f4.f0.f0), .d (.int .i64 b.f4.f0.f1), .d (.int .i64 b.f4.f0.f2), .d (.ints .u8 b.f4.f0.f3), .d (.ints .u8 b.f4.f0.f4), .d (.int .i64 b.f4.f0.f5.f0), .d (.int .i64 b.f4.f0.f5.f1), .d (.ints .u8 b.f4.f0.f5.f2), .d (.ints .u8 b.f4.f0.f5.f3), .d (.bss b.f4.f0.f5.f4), .d (.bss b.f4.f1)]) rfl rfl (lt_ok rfl) (by kernel_rfl) rfl rfl rfl rfl) ?_
 refine TL.cons rfl (Step.move (p := (.one (.d (.int .i64 (((k + a.f1.cm) + a.f2.cm) + a.f3.cm))))) rfl rfl (lt_ok rfl) rfl) ?_
 have nn7 := SBlock.cm_nn a.f4
 refine TL.cons rfl (Step.call (f := 105) (xs := [.tmp 24, .tmp 25]) (ps := [(.agg [.d (.int .i64 b.f4.f0.f0), .d (.int .i64 b.f4.f0.f1), .d (.int .i64 b.f4.f0.f2), .d (.ints .u8 b.f4.f0.f3), .d (.ints .u8 b.f4.f0.f4), .d (.int .i64 b.f4.f0.f5.f0), .d (.int .i64 b.f4.f0.f5.f1), .d (.ints .u8 b.f4.f0.f5.f2), .d (.ints .u8 b.f4.f0.f5.f3), .d (.bss b.f4.f0.f5.f4), .d (.bss b.f4.f1)]), (.one (.d (.int .i64 (((k + a.f1.cm) + a.f2.cm) + a.f3.cm))))]) false (g := .func 105) rfl rfl (lt_ok rfl) rfl (by kernel_rfl) rfl (.cons (.agg (.cons (.d _) (.cons (.d _) (.cons (.d _) (.cons (.d _) (.cons (.d _) (.cons (.d _) (.cons (.d _) (.cons (.d _) (.cons (.d _) (.cons (.d _) (.cons (.d _) .nil)))))))))))) (.cons (.one (.d _)) .nil)) (ok_laws_heldBlock a.f4 b.f4 (((k + a.f1.cm) + a.f2.cm) + a.f3.cm) (by omega) (by first | omega | (have := SBlock.cm_le (x := a.f4) (by assumption); omega)) (by first | rfl | assumption | (repeat' (first | rfl | apply And.intro)))) (.inr rfl) rfl (by simp) rfl) ?_
 refine TL.cons rfl (Step.assign (p := (.one (.d (.int .i64 ((((k + a.f1.cm) + a.f2.cm) + a.f3.cm) + a.f4.cm))))) rfl rfl (lt_ok rfl) rfl) ?_
 refine TL.nil ?_
 refine T.seq ?_
 refine T.seq ?_
 refine T.region ?_
 refine TL.cons rfl (Step.move (p := (.one (.d (.int .i64 ((((k + a.f1.cm) + a.f2.cm) + a.f3.cm) + a.f4.cm))))) rfl rfl (lt_ok rfl) rfl) ?_
 refine TL.cons rfl (Step.bin rfl rfl (lt_ok rfl) rfl rfl (Bin.lss (k := .i64) (a := ((((k + a.f1.cm) + a.f2.cm) + a.f3.cm) + a.f4.cm)) (b := 0))) ?_
 refine TL.known 28 (c := false) (decide_eq_false (by omega)) rfl ?_
 refine TL.nil ?_
 refine T.cond (b := false) rfl (fun h8_ => absurd h8_ (by simp)) (fun h8_ => ?_)
 refine T.skip ?_
 refine T.seq ?_
 refine T.region ?_
 refine TL.cons rfl (Step.fieldAddr (q := 0) (off := 32) (n := 2) (one := false) rfl rfl (lt_ok rfl) (by kernel_rfl) (Nat.succ_ne_zero _) rfl) ?_
 refine TL.cons rfl (Step.load_box_agg (n := 2) (qs := [.d (.int .i64 b.f5.f0), .d (.sl 3 (b.f5.f1.map SEntry.cells))]) rfl rfl (lt_ok rfl) (by kernel_rfl) rfl rfl rfl rfl) ?_
 refine TL.cons rfl (Step.move (p := (.one (.d (.int .i64 ((((k + a.f1.cm) + a.f2.cm) + a.f3.cm) + a.f4.cm))))) rfl rfl (lt_ok rfl) rfl) ?_
 have nn9 := STc.cm_nn a.f5
 refine TL.cons rfl (Step.call (f := 72) (xs := [.tmp 30, .tmp 31]) (ps := [(.agg [.d (.int .i64 b.f5.f0), .d (.sl 3 (b.f5.f1.map SEntry.cells))]), (.one (.d (.int .i64 ((((k + a.f1.cm) + a.f2.cm) + a.f3.cm) + a.f4.cm))))]) false (g := .func 72) rfl rfl (lt_ok rfl) rfl (by kernel_rfl) rfl (.cons (.agg (.cons (.d _) (.cons (.d _) .nil))) (.cons (.one (.d _)) .nil)) (ok_laws_heldTc a.f5 b.f5 ((((k + a.f1.cm) + a.f2.cm) + a.f3.cm) + a.f4.cm) (by omega) (by first | omega | (have := STc.cm_le (x := a.f5) (by assumption); omega)) (by first | rfl | assumption | (repeat' (first | rfl | apply And.intro)))) (.inr rfl) rfl (by simp) rfl) ?_
 refine TL.cons rfl (Step.assign (p := (.one (.d (.int .i64 (((((k + a.f1.cm) + a.f2.cm) + a.f3.cm) + a.f4.cm) + a.f5.cm))))) rfl rfl (lt_ok rfl) rfl) ?_
 refine TL.nil ?_
 refine T.seq ?_
 refine T.seq ?_
 refine T.region ?_
 refine TL.cons rfl (Step.move (p := (.one (.d (.int .i64 (((((k + a.f1.cm) + a.f2.cm) + a.f3.cm) + a.f4.cm) + a.f5.cm))))) rfl rfl (lt_ok rfl) rfl) ?_
 refine TL.cons rfl (Step.bin rfl rfl (lt_ok rfl) rfl rfl (Bin.lss (k := .i64) (a := (((((k + a.f1.cm) + a.f2.cm) + a.f3.cm) + a.f4.cm) + a.f5.cm)) (b := 0))) ?_
 refine TL.known 34 (c := false) (decide_eq_false (by omega)) rfl ?_
 refine TL.nil ?_
 refine T.cond (b := false) rfl (fun h10_ => absurd h10_ (by simp)) (fun h10_ => ?_)
 refine T.skip ?_
 refine T.seq ?_
 refine T.region ?_
 refine TL.cons rfl (Step.fieldAddr (q := 0) (off := 34) (n := 6) (one := false) rfl rfl (lt_ok rfl) (by kernel_rfl) (Nat.succ_ne_zero _) rfl) ?_
 refine TL.cons rfl (Step.load_box_agg (n := 6) (qs := [.d (.sl 10 (b.f6.f0.map SHead.cells)), .d (.int .i64 b.f6.f1.f0), .d (.int .i64 b.f6.f1.f1), .d (.ints .u8 b.f6.f1.f2), .d (.ints .u8 b.f6.f1.f3), .d (.bss b.f6.f1.f4)]) rfl rfl (lt_ok rfl) (by kernel_rfl) rfl rfl rfl rfl) ?_
 refine TL.cons rfl (Step.move (p := (.one (.d (.int .i64 (((((k + a.f1.cm) + a.f2.cm) + a.f3.cm) + a.f4.cm) + a.f5.cm))))) rfl rfl (lt_ok rfl) rfl) ?_
 have nn11 := SProof.cm_nn a.f6
 refine TL.cons rfl (Step.call (f := 106) (xs := [.tmp 36, .tmp 37]) (ps := [(.agg [.d (.sl 10 (b.f6.f0.map SHead.cells)), .d (.int .i64 b.f6.f1.f0), .d (.int .i64 b.f6.f1.f1), .d (.ints .u8 b.f6.f1.f2), .d (.ints .u8 b.f6.f1.f3), .d (.bss b.f6.f1.f4)]), (.one (.d (.int .i64 (((((k + a.f1.cm) + a.f2.cm) + a.f3.cm) + a.f4.cm) + a.f5.cm))))]) false (g := .func 106) rfl rfl (lt_ok rfl) rfl (by kernel_rfl) rfl (.cons (.agg (.cons (.d _) (.cons (.d _) (.cons (.d _) (.cons (.d _) (.cons (.d _) (.cons (.d _) .nil))))))) (.cons (.one (.d _)) .nil)) (ok_laws_heldProof a.f6 b.f6 (((((k + a.f1.cm) + a.f2.cm) + a.f3.cm) + a.f4.cm) + a.f5.cm) (by omega) (by first | omega | (have := SProof.cm_le (x := a.f6) (by assumption); omega)) (by first | rfl | assumption | (repeat' (first | rfl | apply And.intro)))) (.inr rfl) rfl (by simp) rfl) ?_
 refine TL.cons rfl (Step.assign (p := (.one (.d (.int .i64 ((((((k + a.f1.cm) + a.f2.cm) + a.f3.cm) + a.f4.cm) + a.f5.cm) + a.f6.cm))))) rfl rfl (lt_ok rfl) rfl) ?_
 refine TL.nil ?_
 refine T.seq ?_
 refine T.seq ?_
 refine T.region ?_
 refine TL.cons rfl (Step.move (p := (.one (.d (.int .i64 ((((((k + a.f1.cm) + a.f2.cm) + a.f3.cm) + a.f4.cm) + a.f5.cm) + a.f6.cm))))) rfl rfl (lt_ok rfl) rfl) ?_
 refine TL.cons rfl (Step.bin rfl rfl (lt_ok rfl) rfl rfl (Bin.lss (k := .i64) (a := ((((((k + a.f1.cm) + a.f2.cm) + a.f3.cm) + a.f4.cm) + a.f5.cm) + a.f6.cm)) (b := 0))) ?_
 refine TL.known 40 (c := false) (decide_eq_false (by omega)) rfl ?_
 refine TL.nil ?_
 refine T.cond (b := false) rfl (fun h12_ => absurd h12_ (by simp)) (fun h12_ => ?_)
 refine T.skip ?_
 refine T.seq ?_
 refine T.region ?_
 refine TL.cons rfl (Step.fieldAddr (q := 0) (off := 40) (n := 5) (one := false) rfl rfl (lt_ok rfl) (by kernel_rfl) (Nat.succ_ne_zero _) rfl) ?_
 refine TL.cons rfl (Step.load_box_agg (n := 5) (qs := [.d (.int .i64 b.f7.f0), .d (.int .i64 b.f7.f1), .d (.int .i64 b.f7.f2), .d (.ints .u8 b.f7.f3), .d (.bss b.f7.f4)]) rfl rfl (lt_ok rfl) (by kernel_rfl) rfl rfl rfl rfl) ?_
 refine TL.cons rfl (Step.move (p := (.one (.d (.int .i64 ((((((k + a.f1.cm) + a.f2.cm) + a.f3.cm) + a.f4.cm) + a.f5.cm) + a.f6.cm))))) rfl rfl (lt_ok rfl) rfl) ?_
 have nn13 := SIncl.cm_nn a.f7
 refine TL.cons rfl (Step.call (f := 75) (xs := [.tmp 42, .tmp 43]) (ps := [(.agg [.d (.int .i64 b.f7.f0), .d (.int .i64 b.f7.f1), .d (.int .i64 b.f7.f2), .d (.ints .u8 b.f7.f3), .d (.bss b.f7.f4)]), (.one (.d (.int .i64 ((((((k + a.f1.cm) + a.f2.cm) + a.f3.cm) + a.f4.cm) + a.f5.cm) + a.f6.cm))))]) false (g := .func 75) rfl rfl (lt_ok rfl) rfl (by kernel_rfl) rfl (.cons (.agg (.cons (.d _) (.cons (.d _) (.cons (.d _) (.cons (.d _) (.cons (.d _) .nil)))))) (.cons (.one (.d _)) .nil)) (ok_laws_heldIncl a.f7 b.f7 ((((((k + a.f1.cm) + a.f2.cm) + a.f3.cm) + a.f4.cm) + a.f5.cm) + a.f6.cm) (by omega) (by first | omega | (have := SIncl.cm_le (x := a.f7) (by assumption); omega)) (by first | rfl | assumption | (repeat' (first | rfl | apply And.intro)))) (.inr rfl) rfl (by simp) rfl) ?_
 refine TL.cons rfl (Step.assign (p := (.one (.d (.int .i64 (((((((k + a.f1.cm) + a.f2.cm) + a.f3.cm) + a.f4.cm) + a.f5.cm) + a.f6.cm) + a.f7.cm))))) rfl rfl (lt_ok rfl) rfl) ?_
 refine TL.nil ?_
 refine T.weaken (E' := { tm := [(1, (.one (.d (.int .i64 (((((((k + a.f1.cm) + a.f2.cm) + a.f3.cm) + a.f4.cm) + a.f5.cm) + a.f6.cm) + a.f7.cm))))), (4, (.one (.d (.int .i64 0))))], rows := [], boxes := [] }) (Env.le_mk ⟨by kernel_rfl, by kernel_rfl, trivial⟩ trivial trivial) ?_
 refine T.seq ?_
 refine T.seq ?_
 refine T.region ?_
 refine TL.cons rfl (Step.move (p := (.one (.d (.int .i64 (((((((k + a.f1.cm) + a.f2.cm) + a.f3.cm) + a.f4.cm) + a.f5.cm) + a.f6.cm) + a.f7.cm))))) rfl rfl (lt_ok rfl) rfl) ?_
 refine TL.cons rfl (Step.bin rfl rfl (lt_ok rfl) rfl rfl (Bin.lss (k := .i64) (a := (((((((k + a.f1.cm) + a.f2.cm) + a.f3.cm) + a.f4.cm) + a.f5.cm) + a.f6.cm) + a.f7.cm)) (b := 0))) ?_
 refine TL.known 46 (c := false) (decide_eq_false (by omega)) rfl ?_
 refine TL.nil ?_
 refine T.cond (b := false) rfl (fun h14_ => absurd h14_ (by simp)) (fun h14_ => ?_)
 refine T.skip ?_
 refine T.seq ?_
 refine T.region ?_
 refine TL.cons rfl (Step.move (p := (.one (.d (.int .i64 (((((((k + a.f1.cm) + a.f2.cm) + a.f3.cm) + a.f4.cm) + a.f5.cm) + a.f6.cm) + a.f7.cm))))) rfl rfl (lt_ok rfl) rfl) ?_
 refine TL.cons rfl (Step.assign (p := (.one (.d (.int .i64 (((((((k + a.f1.cm) + a.f2.cm) + a.f3.cm) + a.f4.cm) + a.f5.cm) + a.f6.cm) + a.f7.cm))))) rfl rfl (lt_ok rfl) rfl) ?_
 refine TL.nil ?_
 refine T.ret ?_
 exact ⟨[(false, [.d (.int .i64 (((((((k + a.f1.cm) + a.f2.cm) + a.f3.cm) + a.f4.cm) + a.f5.cm) + a.f6.cm) + a.f7.cm))])], (.cons rfl .nil), rfl, [], (RetC.rd' (by first | rfl | (congr 1; simp only [SMsg.cm]; omega)) .nil)⟩
end Go.Proofs.Ythaagegnobegjaa.Rf
