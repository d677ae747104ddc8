/- The functions that FnExactDecode calls, each held to what it answers. Printed by a program of this session; Lean checks it. -/
import Derived.Test.YtjohlfccejljlaaGreatProg
import Derived.Test.YtjohlfccejljlaaGreatRFnExactDecodex2
namespace Go.Proofs.YtjohlfccejljlaaGreat.Rf
open Go.RowKit
set_option linter.unusedVariables false
set_option linter.unnecessarySimpa false
set_option linter.unusedSimpArgs false
set_option maxRecDepth 100000
set_option maxHeartbeats 40000000
theorem ok_laws_markHeadS (a : List SHead) (k : Int) (h0_ : 0 ≤ k) (h1_ : k + cntL SHead.ce a ≤ 4611686018427387904) : MK Tryz.prog 91 [.one (.mk (.sl 10 (a.map SHead.cells)) (.sl 10 ((mkL SHead.ce SHead.me a k).map SHead.cells))), .one (.rd (.int .i64 k))] [(false, [.rd (.int .i64 (k + cntL SHead.ce a))])] := by
 refine MK.intro Tryz.func91 rfl 88 rfl (le_ok rfl) (le_ok rfl) rfl fun w Z IX pin Ts hp => ?_
 refine T.bndRow 900 rfl fun hb_900 => ?_
 simp only [D.size, List.length_map] at hb_900
 refine T.sr [(4, (pI 0))] [] ?_
 refine T.seq ?_
 refine T.sr [(5, (pI 0))] [] ?_
 refine T.block ?_
 refine T.loop (ι := Nat) (fun xx_ => { tm := [(0, (.one (.row 900 []))), (4, (pI 0)), (5, (pI (xx_ : Int))), (1, (pI (k + cntL SHead.ce (a.take xx_))))], rows := [(900, ((Ts 0), (.sl 10 (((upTo SHead.ce SHead.me a k xx_).set xx_ (a.getD xx_ default)).map SHead.cells))))], boxes := [] }) (fun xx_ => xx_ ≤ a.length) (fun xx_ => a.length - xx_) 0 ?_ ?_ ?_
 · refine Env.le_mk ⟨rfl, rfl, ?_, ?_, trivial⟩ ⟨?_, trivial⟩ trivial <;> exact p_78
 · exact Nat.zero_le _
 intro i hx
 try dsimp only at hx ⊢
 refine T.seq (T.sg ?_)
 refine TL.rx 2 [(6, (pI (i : Int))), (7, (.one (.row 900 [])))] [] ?_
 refine TL.c (Step.len' (e := 31) (z := 10) (d := (.sl 10 (((upTo SHead.ce SHead.me a k i).set i (a.getD i default)).map SHead.cells))) (n := a.length) rfl rfl (lt_ok rfl) p_6 rfl rfl (by simp [D.size, upTo_length])) ?_
 refine TL.rl [(9, (pB (decide ((i : Int) < (a.length : Int)))))] [] ?_
 refine T.ci rfl (fun h1 => ?_) (fun h1 => ?_)
 ·have hc1 := cntL_take_le (cnt := SHead.ce) SHead.ce_nn a (i + 1)
  have hc2 := cntL_take_succ (cnt := SHead.ce) (i := i) default (show i < a.length by omega)
  have hc3 := cntL_nonneg (cnt := SHead.ce) SHead.ce_nn (a.take i)
  have hc4 : SHead.ce (a.getD i default) = 1 + 1 + 1 + ((a.getD i default).f3.length : Int) + ((a.getD i default).f4.length : Int) + (1 + 1 + ((a.getD i default).f5.f2.length : Int) + ((a.getD i default).f5.f3.length : Int) + cntL (fun x : List Int => (x.length : Int)) (a.getD i default).f5.f4) := rfl
  have hn0 := cntBs_nonneg (a.getD i default).f5.f4
  refine T.skip (T.seq (T.block (T.sg ?_)))
  refine TL.rx 3 [(12, (.one (.row 900 []))), (13, (pI (i : Int))), (14, (pI (k + cntL SHead.ce (a.take i))))] [] ?_
  refine TL.c (Step.index_row (d := (.sl 10 (((upTo SHead.ce SHead.me a k i).set i (a.getD i default)).map SHead.cells))) (e := 31) (z := 10) (i := (i : Int)) rfl rfl (lt_ok rfl) p_6 rfl rfl rfl rfl (lt_ok rfl) rfl p_17 p_49) ?_
  refine TL.c (Step.fieldAddr_r (d := (.sl 10 (((upTo SHead.ce SHead.me a k i).set i (a.getD i default)).map SHead.cells))) (j := 0) (off := 0) (n := 1) (one := true) rfl rfl (lt_ok rfl) p_6 (Nat.succ_ne_zero _) rfl rfl (lt_ok rfl)) ?_
  refine TL.c (Step.store_row (n := 1) (p := (pI (k + cntL SHead.ce (a.take i)))) (ps := [cI (k + cntL SHead.ce (a.take i))]) (es := [(.int .i64 (k + cntL SHead.ce (a.take i)))]) (ss := []) (d1 := (.sl 10 (((upTo SHead.ce SHead.me a k i).set i (⟨k + cntL SHead.ce (a.take i), (a.getD i default).f1, (a.getD i default).f2, (a.getD i default).f3, (a.getD i default).f4, (a.getD i default).f5⟩ : SHead)).map SHead.cells))) (d' := (.sl 10 (((upTo SHead.ce SHead.me a k i).set i (⟨k + cntL SHead.ce (a.take i), (a.getD i default).f1, (a.getD i default).f2, (a.getD i default).f3, (a.getD i default).f4, (a.getD i default).f5⟩ : SHead)).map SHead.cells))) rfl rfl p_6 rfl rfl rfl rfl rfl rfl (.val rfl .nil) p_104 (Putd.fld2 SHead.len p_52 (lt_ok rfl) rfl) rfl) ?_
  refine TL.nil (T.sg ?_)
  refine TL.rx 1 [(17, (pI (k + cntL SHead.ce (a.take i))))] [] ?_
  refine TL.ad ((k + cntL SHead.ce (a.take i)) + 1) ?_
  refine TL.rl [(1, (pI ((k + cntL SHead.ce (a.take i)) + 1)))] [] ?_
  refine T.sg ?_
  refine TL.rx 3 [(19, (.one (.row 900 []))), (20, (pI (i : Int))), (21, (pI ((k + cntL SHead.ce (a.take i)) + 1)))] [] ?_
  refine TL.c (Step.index_row (d := (.sl 10 (((upTo SHead.ce SHead.me a k i).set i (⟨k + cntL SHead.ce (a.take i), (a.getD i default).f1, (a.getD i default).f2, (a.getD i default).f3, (a.getD i default).f4, (a.getD i default).f5⟩ : SHead)).map SHead.cells))) (e := 31) (z := 10) (i := (i : Int)) rfl rfl (lt_ok rfl) p_6 rfl rfl rfl rfl (lt_ok rfl) rfl p_17 p_49) ?_
  refine TL.c (Step.fieldAddr_r (d := (.sl 10 (((upTo SHead.ce SHead.me a k i).set i (⟨k + cntL SHead.ce (a.take i), (a.getD i default).f1, (a.getD i default).f2, (a.getD i default).f3, (a.getD i default).f4, (a.getD i default).f5⟩ : SHead)).map SHead.cells))) (j := 0) (off := 1) (n := 1) (one := true) rfl rfl (lt_ok rfl) p_6 (Nat.succ_ne_zero _) rfl rfl (lt_ok rfl)) ?_
  refine TL.c (Step.store_row (n := 1) (p := (pI ((k + cntL SHead.ce (a.take i)) + 1))) (ps := [cI ((k + cntL SHead.ce (a.take i)) + 1)]) (es := [(.int .i64 ((k + cntL SHead.ce (a.take i)) + 1))]) (ss := []) (d1 := (.sl 10 (((upTo SHead.ce SHead.me a k i).set i (⟨k + cntL SHead.ce (a.take i), (k + cntL SHead.ce (a.take i)) + 1, (a.getD i default).f2, (a.getD i default).f3, (a.getD i default).f4, (a.getD i default).f5⟩ : SHead)).map SHead.cells))) (d' := (.sl 10 (((upTo SHead.ce SHead.me a k i).set i (⟨k + cntL SHead.ce (a.take i), (k + cntL SHead.ce (a.take i)) + 1, (a.getD i default).f2, (a.getD i default).f3, (a.getD i default).f4, (a.getD i default).f5⟩ : SHead)).map SHead.cells))) rfl rfl p_6 rfl rfl rfl rfl rfl rfl (.val rfl .nil) p_104 (Putd.fld2 SHead.len p_52 (lt_ok rfl) rfl) rfl) ?_
  refine TL.nil (T.sg ?_)
  refine TL.rx 1 [(24, (pI ((k + cntL SHead.ce (a.take i)) + 1)))] [] ?_
  refine TL.ad (((k + cntL SHead.ce (a.take i)) + 1) + 1) ?_
  refine TL.rl [(1, (pI (((k + cntL SHead.ce (a.take i)) + 1) + 1)))] [] ?_
  refine T.sg ?_
  refine TL.rx 3 [(26, (.one (.row 900 []))), (27, (pI (i : Int))), (28, (pI (((k + cntL SHead.ce (a.take i)) + 1) + 1)))] [] ?_
  refine TL.c (Step.index_row (d := (.sl 10 (((upTo SHead.ce SHead.me a k i).set i (⟨k + cntL SHead.ce (a.take i), (k + cntL SHead.ce (a.take i)) + 1, (a.getD i default).f2, (a.getD i default).f3, (a.getD i default).f4, (a.getD i default).f5⟩ : SHead)).map SHead.cells))) (e := 31) (z := 10) (i := (i : Int)) rfl rfl (lt_ok rfl) p_6 rfl rfl rfl rfl (lt_ok rfl) rfl p_17 p_49) ?_
  refine TL.c (Step.fieldAddr_r (d := (.sl 10 (((upTo SHead.ce SHead.me a k i).set i (⟨k + cntL SHead.ce (a.take i), (k + cntL SHead.ce (a.take i)) + 1, (a.getD i default).f2, (a.getD i default).f3, (a.getD i default).f4, (a.getD i default).f5⟩ : SHead)).map SHead.cells))) (j := 0) (off := 2) (n := 1) (one := true) rfl rfl (lt_ok rfl) p_6 (Nat.succ_ne_zero _) rfl rfl (lt_ok rfl)) ?_
  refine TL.c (Step.store_row (n := 1) (p := (pI (((k + cntL SHead.ce (a.take i)) + 1) + 1))) (ps := [cI (((k + cntL SHead.ce (a.take i)) + 1) + 1)]) (es := [(.int .i64 (((k + cntL SHead.ce (a.take i)) + 1) + 1))]) (ss := []) (d1 := (.sl 10 (((upTo SHead.ce SHead.me a k i).set i (⟨k + cntL SHead.ce (a.take i), (k + cntL SHead.ce (a.take i)) + 1, ((k + cntL SHead.ce (a.take i)) + 1) + 1, (a.getD i default).f3, (a.getD i default).f4, (a.getD i default).f5⟩ : SHead)).map SHead.cells))) (d' := (.sl 10 (((upTo SHead.ce SHead.me a k i).set i (⟨k + cntL SHead.ce (a.take i), (k + cntL SHead.ce (a.take i)) + 1, ((k + cntL SHead.ce (a.take i)) + 1) + 1, (a.getD i default).f3, (a.getD i default).f4, (a.getD i default).f5⟩ : SHead)).map SHead.cells))) rfl rfl p_6 rfl rfl rfl rfl rfl rfl (.val rfl .nil) p_104 (Putd.fld2 SHead.len p_52 (lt_ok rfl) rfl) rfl) ?_
  refine TL.nil (T.sg ?_)
  refine TL.rx 1 [(31, (pI (((k + cntL SHead.ce (a.take i)) + 1) + 1)))] [] ?_
  refine TL.ad ((((k + cntL SHead.ce (a.take i)) + 1) + 1) + 1) ?_
  refine TL.rl [(1, (pI ((((k + cntL SHead.ce (a.take i)) + 1) + 1) + 1)))] [] ?_
  refine T.sg ?_
  refine TL.rx 2 [(33, (.one (.row 900 []))), (34, (pI (i : Int)))] [] ?_
  refine TL.c (Step.index_row (d := (.sl 10 (((upTo SHead.ce SHead.me a k i).set i (⟨k + cntL SHead.ce (a.take i), (k + cntL SHead.ce (a.take i)) + 1, ((k + cntL SHead.ce (a.take i)) + 1) + 1, (a.getD i default).f3, (a.getD i default).f4, (a.getD i default).f5⟩ : SHead)).map SHead.cells))) (e := 31) (z := 10) (i := (i : Int)) rfl rfl (lt_ok rfl) p_6 rfl rfl rfl rfl (lt_ok rfl) rfl p_17 p_49) ?_
  refine TL.c (Step.fieldAddr_r (d := (.sl 10 (((upTo SHead.ce SHead.me a k i).set i (⟨k + cntL SHead.ce (a.take i), (k + cntL SHead.ce (a.take i)) + 1, ((k + cntL SHead.ce (a.take i)) + 1) + 1, (a.getD i default).f3, (a.getD i default).f4, (a.getD i default).f5⟩ : SHead)).map SHead.cells))) (j := 0) (off := 3) (n := 1) (one := true) rfl rfl (lt_ok rfl) p_6 (Nat.succ_ne_zero _) rfl rfl (lt_ok rfl)) ?_
  refine TL.c (Step.load_row (d := (.sl 10 (((upTo SHead.ce SHead.me a k i).set i (⟨k + cntL SHead.ce (a.take i), (k + cntL SHead.ce (a.take i)) + 1, ((k + cntL SHead.ce (a.take i)) + 1) + 1, (a.getD i default).f3, (a.getD i default).f4, (a.getD i default).f5⟩ : SHead)).map SHead.cells))) (c := .row 900 [(i, 3)]) rfl rfl (lt_ok rfl) p_6 rfl rfl (ofRow_sl (cell_set_sl (z := 10) p_52 rfl) rfl)) ?_
  refine TL.rx 1 [(38, (pI ((((k + cntL SHead.ce (a.take i)) + 1) + 1) + 1)))] [] ?_
  refine TL.c (Step.callM2 (xs := [.tmp 37, .tmp 38]) (ps := [(.one (.row 900 [(i, 3)])), (pI ((((k + cntL SHead.ce (a.take i)) + 1) + 1) + 1))]) (js := [(900, (.sl 10 (((upTo SHead.ce SHead.me a k i).set i (⟨k + cntL SHead.ce (a.take i), (k + cntL SHead.ce (a.take i)) + 1, ((k + cntL SHead.ce (a.take i)) + 1) + 1, mkB (a.getD i default).f3 ((((k + cntL SHead.ce (a.take i)) + 1) + 1) + 1), (a.getD i default).f4, (a.getD i default).f5⟩ : SHead)).map SHead.cells)))]) (g := .func 11) (ok_laws_markByteS (a.getD i default).f3 ((((k + cntL SHead.ce (a.take i)) + 1) + 1) + 1) p_4 p_57) rfl rfl (lt_ok rfl) rfl p_6 rfl rfl (.row (T := (Ts 0)) (d := (.sl 10 (((upTo SHead.ce SHead.me a k i).set i (⟨k + cntL SHead.ce (a.take i), (k + cntL SHead.ce (a.take i)) + 1, ((k + cntL SHead.ce (a.take i)) + 1) + 1, (a.getD i default).f3, (a.getD i default).f4, (a.getD i default).f5⟩ : SHead)).map SHead.cells))) (e' := (.ints .u8 (mkB (a.getD i default).f3 ((((k + cntL SHead.ce (a.take i)) + 1) + 1) + 1)))) (d' := (.sl 10 (((upTo SHead.ce SHead.me a k i).set i (⟨k + cntL SHead.ce (a.take i), (k + cntL SHead.ce (a.take i)) + 1, ((k + cntL SHead.ce (a.take i)) + 1) + 1, mkB (a.getD i default).f3 ((((k + cntL SHead.ce (a.take i)) + 1) + 1) + 1), (a.getD i default).f4, (a.getD i default).f5⟩ : SHead)).map SHead.cells))) rfl (cell_set_sl (z := 10) p_52 rfl) rfl (putAt_fld2 p_52 rfl) rfl p_120 rfl rfl (.d .nil)) rfl) ?_
  refine TL.rl [(1, (pI (((((k + cntL SHead.ce (a.take i)) + 1) + 1) + 1) + ((a.getD i default).f3.length : Int))))] [] ?_
  refine T.sg ?_
  refine TL.rx 2 [(40, (.one (.row 900 []))), (41, (pI (i : Int)))] [] ?_
  refine TL.c (Step.index_row (d := (.sl 10 (((upTo SHead.ce SHead.me a k i).set i (⟨k + cntL SHead.ce (a.take i), (k + cntL SHead.ce (a.take i)) + 1, ((k + cntL SHead.ce (a.take i)) + 1) + 1, mkB (a.getD i default).f3 ((((k + cntL SHead.ce (a.take i)) + 1) + 1) + 1), (a.getD i default).f4, (a.getD i default).f5⟩ : SHead)).map SHead.cells))) (e := 31) (z := 10) (i := (i : Int)) rfl rfl (lt_ok rfl) p_6 rfl rfl rfl rfl (lt_ok rfl) rfl p_17 p_49) ?_
  refine TL.c (Step.fieldAddr_r (d := (.sl 10 (((upTo SHead.ce SHead.me a k i).set i (⟨k + cntL SHead.ce (a.take i), (k + cntL SHead.ce (a.take i)) + 1, ((k + cntL SHead.ce (a.take i)) + 1) + 1, mkB (a.getD i default).f3 ((((k + cntL SHead.ce (a.take i)) + 1) + 1) + 1), (a.getD i default).f4, (a.getD i default).f5⟩ : SHead)).map SHead.cells))) (j := 0) (off := 4) (n := 1) (one := true) rfl rfl (lt_ok rfl) p_6 (Nat.succ_ne_zero _) rfl rfl (lt_ok rfl)) ?_
  refine TL.c (Step.load_row (d := (.sl 10 (((upTo SHead.ce SHead.me a k i).set i (⟨k + cntL SHead.ce (a.take i), (k + cntL SHead.ce (a.take i)) + 1, ((k + cntL SHead.ce (a.take i)) + 1) + 1, mkB (a.getD i default).f3 ((((k + cntL SHead.ce (a.take i)) + 1) + 1) + 1), (a.getD i default).f4, (a.getD i default).f5⟩ : SHead)).map SHead.cells))) (c := .row 900 [(i, 4)]) rfl rfl (lt_ok rfl) p_6 rfl rfl (ofRow_sl (cell_set_sl (z := 10) p_52 rfl) rfl)) ?_
  refine TL.rx 1 [(45, (pI (((((k + cntL SHead.ce (a.take i)) + 1) + 1) + 1) + ((a.getD i default).f3.length : Int))))] [] ?_
  refine TL.c (Step.callM2 (xs := [.tmp 44, .tmp 45]) (ps := [(.one (.row 900 [(i, 4)])), (pI (((((k + cntL SHead.ce (a.take i)) + 1) + 1) + 1) + ((a.getD i default).f3.length : Int)))]) (js := [(900, (.sl 10 (((upTo SHead.ce SHead.me a k i).set i (⟨k + cntL SHead.ce (a.take i), (k + cntL SHead.ce (a.take i)) + 1, ((k + cntL SHead.ce (a.take i)) + 1) + 1, mkB (a.getD i default).f3 ((((k + cntL SHead.ce (a.take i)) + 1) + 1) + 1), mkB (a.getD i default).f4 (((((k + cntL SHead.ce (a.take i)) + 1) + 1) + 1) + ((a.getD i default).f3.length : Int)), (a.getD i default).f5⟩ : SHead)).map SHead.cells)))]) (g := .func 11) (ok_laws_markByteS (a.getD i default).f4 (((((k + cntL SHead.ce (a.take i)) + 1) + 1) + 1) + ((a.getD i default).f3.length : Int)) p_4 p_57) rfl rfl (lt_ok rfl) rfl p_6 rfl rfl (.row (T := (Ts 0)) (d := (.sl 10 (((upTo SHead.ce SHead.me a k i).set i (⟨k + cntL SHead.ce (a.take i), (k + cntL SHead.ce (a.take i)) + 1, ((k + cntL SHead.ce (a.take i)) + 1) + 1, mkB (a.getD i default).f3 ((((k + cntL SHead.ce (a.take i)) + 1) + 1) + 1), (a.getD i default).f4, (a.getD i default).f5⟩ : SHead)).map SHead.cells))) (e' := (.ints .u8 (mkB (a.getD i default).f4 (((((k + cntL SHead.ce (a.take i)) + 1) + 1) + 1) + ((a.getD i default).f3.length : Int))))) (d' := (.sl 10 (((upTo SHead.ce SHead.me a k i).set i (⟨k + cntL SHead.ce (a.take i), (k + cntL SHead.ce (a.take i)) + 1, ((k + cntL SHead.ce (a.take i)) + 1) + 1, mkB (a.getD i default).f3 ((((k + cntL SHead.ce (a.take i)) + 1) + 1) + 1), mkB (a.getD i default).f4 (((((k + cntL SHead.ce (a.take i)) + 1) + 1) + 1) + ((a.getD i default).f3.length : Int)), (a.getD i default).f5⟩ : SHead)).map SHead.cells))) rfl (cell_set_sl (z := 10) p_52 rfl) rfl (putAt_fld2 p_52 rfl) rfl p_120 rfl rfl (.d .nil)) rfl) ?_
  refine TL.rl [(1, (pI ((((((k + cntL SHead.ce (a.take i)) + 1) + 1) + 1) + ((a.getD i default).f3.length : Int)) + ((a.getD i default).f4.length : Int))))] [] ?_
  refine T.sg ?_
  refine TL.rx 3 [(47, (.one (.row 900 []))), (48, (pI (i : Int))), (49, (pI ((((((k + cntL SHead.ce (a.take i)) + 1) + 1) + 1) + ((a.getD i default).f3.length : Int)) + ((a.getD i default).f4.length : Int))))] [] ?_
  refine TL.c (Step.index_row (d := (.sl 10 (((upTo SHead.ce SHead.me a k i).set i (⟨k + cntL SHead.ce (a.take i), (k + cntL SHead.ce (a.take i)) + 1, ((k + cntL SHead.ce (a.take i)) + 1) + 1, mkB (a.getD i default).f3 ((((k + cntL SHead.ce (a.take i)) + 1) + 1) + 1), mkB (a.getD i default).f4 (((((k + cntL SHead.ce (a.take i)) + 1) + 1) + 1) + ((a.getD i default).f3.length : Int)), (a.getD i default).f5⟩ : SHead)).map SHead.cells))) (e := 31) (z := 10) (i := (i : Int)) rfl rfl (lt_ok rfl) p_6 rfl rfl rfl rfl (lt_ok rfl) rfl p_17 p_49) ?_
  refine TL.c (Step.fieldAddr_r (d := (.sl 10 (((upTo SHead.ce SHead.me a k i).set i (⟨k + cntL SHead.ce (a.take i), (k + cntL SHead.ce (a.take i)) + 1, ((k + cntL SHead.ce (a.take i)) + 1) + 1, mkB (a.getD i default).f3 ((((k + cntL SHead.ce (a.take i)) + 1) + 1) + 1), mkB (a.getD i default).f4 (((((k + cntL SHead.ce (a.take i)) + 1) + 1) + 1) + ((a.getD i default).f3.length : Int)), (a.getD i default).f5⟩ : SHead)).map SHead.cells))) (j := 0) (off := 5) (n := 5) (one := false) rfl rfl (lt_ok rfl) p_6 (Nat.succ_ne_zero _) rfl rfl (lt_ok rfl)) ?_
  refine TL.c (Step.fieldAddr_r (d := (.sl 10 (((upTo SHead.ce SHead.me a k i).set i (⟨k + cntL SHead.ce (a.take i), (k + cntL SHead.ce (a.take i)) + 1, ((k + cntL SHead.ce (a.take i)) + 1) + 1, mkB (a.getD i default).f3 ((((k + cntL SHead.ce (a.take i)) + 1) + 1) + 1), mkB (a.getD i default).f4 (((((k + cntL SHead.ce (a.take i)) + 1) + 1) + 1) + ((a.getD i default).f3.length : Int)), (a.getD i default).f5⟩ : SHead)).map SHead.cells))) (j := 5) (off := 0) (n := 1) (one := true) rfl rfl (lt_ok rfl) p_6 (Nat.succ_ne_zero _) rfl rfl (lt_ok rfl)) ?_
  refine TL.c (Step.store_row (n := 1) (p := (pI ((((((k + cntL SHead.ce (a.take i)) + 1) + 1) + 1) + ((a.getD i default).f3.length : Int)) + ((a.getD i default).f4.length : Int)))) (ps := [cI ((((((k + cntL SHead.ce (a.take i)) + 1) + 1) + 1) + ((a.getD i default).f3.length : Int)) + ((a.getD i default).f4.length : Int))]) (es := [(.int .i64 ((((((k + cntL SHead.ce (a.take i)) + 1) + 1) + 1) + ((a.getD i default).f3.length : Int)) + ((a.getD i default).f4.length : Int)))]) (ss := []) (d1 := (.sl 10 (((upTo SHead.ce SHead.me a k i).set i (⟨k + cntL SHead.ce (a.take i), (k + cntL SHead.ce (a.take i)) + 1, ((k + cntL SHead.ce (a.take i)) + 1) + 1, mkB (a.getD i default).f3 ((((k + cntL SHead.ce (a.take i)) + 1) + 1) + 1), mkB (a.getD i default).f4 (((((k + cntL SHead.ce (a.take i)) + 1) + 1) + 1) + ((a.getD i default).f3.length : Int)), (⟨(((((k + cntL SHead.ce (a.take i)) + 1) + 1) + 1) + ((a.getD i default).f3.length : Int)) + ((a.getD i default).f4.length : Int), (a.getD i default).f5.f1, (a.getD i default).f5.f2, (a.getD i default).f5.f3, (a.getD i default).f5.f4⟩ : SQc)⟩ : SHead)).map SHead.cells))) (d' := (.sl 10 (((upTo SHead.ce SHead.me a k i).set i (⟨k + cntL SHead.ce (a.take i), (k + cntL SHead.ce (a.take i)) + 1, ((k + cntL SHead.ce (a.take i)) + 1) + 1, mkB (a.getD i default).f3 ((((k + cntL SHead.ce (a.take i)) + 1) + 1) + 1), mkB (a.getD i default).f4 (((((k + cntL SHead.ce (a.take i)) + 1) + 1) + 1) + ((a.getD i default).f3.length : Int)), (⟨(((((k + cntL SHead.ce (a.take i)) + 1) + 1) + 1) + ((a.getD i default).f3.length : Int)) + ((a.getD i default).f4.length : Int), (a.getD i default).f5.f1, (a.getD i default).f5.f2, (a.getD i default).f5.f3, (a.getD i default).f5.f4⟩ : SQc)⟩ : SHead)).map SHead.cells))) rfl rfl p_6 rfl rfl rfl rfl rfl rfl (.val rfl .nil) p_104 (Putd.fld2 SHead.len p_52 (lt_ok rfl) rfl) rfl) ?_
  refine TL.nil (T.sg ?_)
  refine TL.rx 1 [(53, (pI ((((((k + cntL SHead.ce (a.take i)) + 1) + 1) + 1) + ((a.getD i default).f3.length : Int)) + ((a.getD i default).f4.length : Int))))] [] ?_
  refine TL.ad (((((((k + cntL SHead.ce (a.take i)) + 1) + 1) + 1) + ((a.getD i default).f3.length : Int)) + ((a.getD i default).f4.length : Int)) + 1) ?_
  refine TL.rl [(1, (pI (((((((k + cntL SHead.ce (a.take i)) + 1) + 1) + 1) + ((a.getD i default).f3.length : Int)) + ((a.getD i default).f4.length : Int)) + 1)))] [] ?_
  refine T.sg ?_
  refine TL.rx 3 [(55, (.one (.row 900 []))), (56, (pI (i : Int))), (57, (pI (((((((k + cntL SHead.ce (a.take i)) + 1) + 1) + 1) + ((a.getD i default).f3.length : Int)) + ((a.getD i default).f4.length : Int)) + 1)))] [] ?_
  refine TL.c (Step.index_row (d := (.sl 10 (((upTo SHead.ce SHead.me a k i).set i (⟨k + cntL SHead.ce (a.take i), (k + cntL SHead.ce (a.take i)) + 1, ((k + cntL SHead.ce (a.take i)) + 1) + 1, mkB (a.getD i default).f3 ((((k + cntL SHead.ce (a.take i)) + 1) + 1) + 1), mkB (a.getD i default).f4 (((((k + cntL SHead.ce (a.take i)) + 1) + 1) + 1) + ((a.getD i default).f3.length : Int)), (⟨(((((k + cntL SHead.ce (a.take i)) + 1) + 1) + 1) + ((a.getD i default).f3.length : Int)) + ((a.getD i default).f4.length : Int), (a.getD i default).f5.f1, (a.getD i default).f5.f2, (a.getD i default).f5.f3, (a.getD i default).f5.f4⟩ : SQc)⟩ : SHead)).map SHead.cells))) (e := 31) (z := 10) (i := (i : Int)) rfl rfl (lt_ok rfl) p_6 rfl rfl rfl rfl (lt_ok rfl) rfl p_17 p_49) ?_
  refine TL.c (Step.fieldAddr_r (d := (.sl 10 (((upTo SHead.ce SHead.me a k i).set i (⟨k + cntL SHead.ce (a.take i), (k + cntL SHead.ce (a.take i)) + 1, ((k + cntL SHead.ce (a.take i)) + 1) + 1, mkB (a.getD i default).f3 ((((k + cntL SHead.ce (a.take i)) + 1) + 1) + 1), mkB (a.getD i default).f4 (((((k + cntL SHead.ce (a.take i)) + 1) + 1) + 1) + ((a.getD i default).f3.length : Int)), (⟨(((((k + cntL SHead.ce (a.take i)) + 1) + 1) + 1) + ((a.getD i default).f3.length : Int)) + ((a.getD i default).f4.length : Int), (a.getD i default).f5.f1, (a.getD i default).f5.f2, (a.getD i default).f5.f3, (a.getD i default).f5.f4⟩ : SQc)⟩ : SHead)).map SHead.cells))) (j := 0) (off := 5) (n := 5) (one := false) rfl rfl (lt_ok rfl) p_6 (Nat.succ_ne_zero _) rfl rfl (lt_ok rfl)) ?_
  refine TL.c (Step.fieldAddr_r (d := (.sl 10 (((upTo SHead.ce SHead.me a k i).set i (⟨k + cntL SHead.ce (a.take i), (k + cntL SHead.ce (a.take i)) + 1, ((k + cntL SHead.ce (a.take i)) + 1) + 1, mkB (a.getD i default).f3 ((((k + cntL SHead.ce (a.take i)) + 1) + 1) + 1), mkB (a.getD i default).f4 (((((k + cntL SHead.ce (a.take i)) + 1) + 1) + 1) + ((a.getD i default).f3.length : Int)), (⟨(((((k + cntL SHead.ce (a.take i)) + 1) + 1) + 1) + ((a.getD i default).f3.length : Int)) + ((a.getD i default).f4.length : Int), (a.getD i default).f5.f1, (a.getD i default).f5.f2, (a.getD i default).f5.f3, (a.getD i default).f5.f4⟩ : SQc)⟩ : SHead)).map SHead.cells))) (j := 5) (off := 1) (n := 1) (one := true) rfl rfl (lt_ok rfl) p_6 (Nat.succ_ne_zero _) rfl rfl (lt_ok rfl)) ?_
  refine TL.c (Step.store_row (n := 1) (p := (pI (((((((k + cntL SHead.ce (a.take i)) + 1) + 1) + 1) + ((a.getD i default).f3.length : Int)) + ((a.getD i default).f4.length : Int)) + 1))) (ps := [cI (((((((k + cntL SHead.ce (a.take i)) + 1) + 1) + 1) + ((a.getD i default).f3.length : Int)) + ((a.getD i default).f4.length : Int)) + 1)]) (es := [(.int .i64 (((((((k + cntL SHead.ce (a.take i)) + 1) + 1) + 1) + ((a.getD i default).f3.length : Int)) + ((a.getD i default).f4.length : Int)) + 1))]) (ss := []) (d1 := (.sl 10 (((upTo SHead.ce SHead.me a k i).set i (⟨k + cntL SHead.ce (a.take i), (k + cntL SHead.ce (a.take i)) + 1, ((k + cntL SHead.ce (a.take i)) + 1) + 1, mkB (a.getD i default).f3 ((((k + cntL SHead.ce (a.take i)) + 1) + 1) + 1), mkB (a.getD i default).f4 (((((k + cntL SHead.ce (a.take i)) + 1) + 1) + 1) + ((a.getD i default).f3.length : Int)), (⟨(((((k + cntL SHead.ce (a.take i)) + 1) + 1) + 1) + ((a.getD i default).f3.length : Int)) + ((a.getD i default).f4.length : Int), ((((((k + cntL SHead.ce (a.take i)) + 1) + 1) + 1) + ((a.getD i default).f3.length : Int)) + ((a.getD i default).f4.length : Int)) + 1, (a.getD i default).f5.f2, (a.getD i default).f5.f3, (a.getD i default).f5.f4⟩ : SQc)⟩ : SHead)).map SHead.cells))) (d' := (.sl 10 (((upTo SHead.ce SHead.me a k i).set i (⟨k + cntL SHead.ce (a.take i), (k + cntL SHead.ce (a.take i)) + 1, ((k + cntL SHead.ce (a.take i)) + 1) + 1, mkB (a.getD i default).f3 ((((k + cntL SHead.ce (a.take i)) + 1) + 1) + 1), mkB (a.getD i default).f4 (((((k + cntL SHead.ce (a.take i)) + 1) + 1) + 1) + ((a.getD i default).f3.length : Int)), (⟨(((((k + cntL SHead.ce (a.take i)) + 1) + 1) + 1) + ((a.getD i default).f3.length : Int)) + ((a.getD i default).f4.length : Int), ((((((k + cntL SHead.ce (a.take i)) + 1) + 1) + 1) + ((a.getD i default).f3.length : Int)) + ((a.getD i default).f4.length : Int)) + 1, (a.getD i default).f5.f2, (a.getD i default).f5.f3, (a.getD i default).f5.f4⟩ : SQc)⟩ : SHead)).map SHead.cells))) rfl rfl p_6 rfl rfl rfl rfl rfl rfl (.val rfl .nil) p_104 (Putd.fld2 SHead.len p_52 (lt_ok rfl) rfl) rfl) ?_
  refine TL.nil (T.sg ?_)
  refine TL.rx 1 [(61, (pI (((((((k + cntL SHead.ce (a.take i)) + 1) + 1) + 1) + ((a.getD i default).f3.length : Int)) + ((a.getD i default).f4.length : Int)) + 1)))] [] ?_
  refine TL.ad ((((((((k + cntL SHead.ce (a.take i)) + 1) + 1) + 1) + ((a.getD i default).f3.length : Int)) + ((a.getD i default).f4.length : Int)) + 1) + 1) ?_
  refine TL.rl [(1, (pI ((((((((k + cntL SHead.ce (a.take i)) + 1) + 1) + 1) + ((a.getD i default).f3.length : Int)) + ((a.getD i default).f4.length : Int)) + 1) + 1)))] [] ?_
  refine T.sg ?_
  refine TL.rx 2 [(63, (.one (.row 900 []))), (64, (pI (i : Int)))] [] ?_
  refine TL.c (Step.index_row (d := (.sl 10 (((upTo SHead.ce SHead.me a k i).set i (⟨k + cntL SHead.ce (a.take i), (k + cntL SHead.ce (a.take i)) + 1, ((k + cntL SHead.ce (a.take i)) + 1) + 1, mkB (a.getD i default).f3 ((((k + cntL SHead.ce (a.take i)) + 1) + 1) + 1), mkB (a.getD i default).f4 (((((k + cntL SHead.ce (a.take i)) + 1) + 1) + 1) + ((a.getD i default).f3.length : Int)), (⟨(((((k + cntL SHead.ce (a.take i)) + 1) + 1) + 1) + ((a.getD i default).f3.length : Int)) + ((a.getD i default).f4.length : Int), ((((((k + cntL SHead.ce (a.take i)) + 1) + 1) + 1) + ((a.getD i default).f3.length : Int)) + ((a.getD i default).f4.length : Int)) + 1, (a.getD i default).f5.f2, (a.getD i default).f5.f3, (a.getD i default).f5.f4⟩ : SQc)⟩ : SHead)).map SHead.cells))) (e := 31) (z := 10) (i := (i : Int)) rfl rfl (lt_ok rfl) p_6 rfl rfl rfl rfl (lt_ok rfl) rfl p_17 p_49) ?_
  refine TL.c (Step.fieldAddr_r (d := (.sl 10 (((upTo SHead.ce SHead.me a k i).set i (⟨k + cntL SHead.ce (a.take i), (k + cntL SHead.ce (a.take i)) + 1, ((k + cntL SHead.ce (a.take i)) + 1) + 1, mkB (a.getD i default).f3 ((((k + cntL SHead.ce (a.take i)) + 1) + 1) + 1), mkB (a.getD i default).f4 (((((k + cntL SHead.ce (a.take i)) + 1) + 1) + 1) + ((a.getD i default).f3.length : Int)), (⟨(((((k + cntL SHead.ce (a.take i)) + 1) + 1) + 1) + ((a.getD i default).f3.length : Int)) + ((a.getD i default).f4.length : Int), ((((((k + cntL SHead.ce (a.take i)) + 1) + 1) + 1) + ((a.getD i default).f3.length : Int)) + ((a.getD i default).f4.length : Int)) + 1, (a.getD i default).f5.f2, (a.getD i default).f5.f3, (a.getD i default).f5.f4⟩ : SQc)⟩ : SHead)).map SHead.cells))) (j := 0) (off := 5) (n := 5) (one := false) rfl rfl (lt_ok rfl) p_6 (Nat.succ_ne_zero _) rfl rfl (lt_ok rfl)) ?_
  refine TL.c (Step.fieldAddr_r (d := (.sl 10 (((upTo SHead.ce SHead.me a k i).set i (⟨k + cntL SHead.ce (a.take i), (k + cntL SHead.ce (a.take i)) + 1, ((k + cntL SHead.ce (a.take i)) + 1) + 1, mkB (a.getD i default).f3 ((((k + cntL SHead.ce (a.take i)) + 1) + 1) + 1), mkB (a.getD i default).f4 (((((k + cntL SHead.ce (a.take i)) + 1) + 1) + 1) + ((a.getD i default).f3.length : Int)), (⟨(((((k + cntL SHead.ce (a.take i)) + 1) + 1) + 1) + ((a.getD i default).f3.length : Int)) + ((a.getD i default).f4.length : Int), ((((((k + cntL SHead.ce (a.take i)) + 1) + 1) + 1) + ((a.getD i default).f3.length : Int)) + ((a.getD i default).f4.length : Int)) + 1, (a.getD i default).f5.f2, (a.getD i default).f5.f3, (a.getD i default).f5.f4⟩ : SQc)⟩ : SHead)).map SHead.cells))) (j := 5) (off := 2) (n := 1) (one := true) rfl rfl (lt_ok rfl) p_6 (Nat.succ_ne_zero _) rfl rfl (lt_ok rfl)) ?_
  refine TL.c (Step.load_row (d := (.sl 10 (((upTo SHead.ce SHead.me a k i).set i (⟨k + cntL SHead.ce (a.take i), (k + cntL SHead.ce (a.take i)) + 1, ((k + cntL SHead.ce (a.take i)) + 1) + 1, mkB (a.getD i default).f3 ((((k + cntL SHead.ce (a.take i)) + 1) + 1) + 1), mkB (a.getD i default).f4 (((((k + cntL SHead.ce (a.take i)) + 1) + 1) + 1) + ((a.getD i default).f3.length : Int)), (⟨(((((k + cntL SHead.ce (a.take i)) + 1) + 1) + 1) + ((a.getD i default).f3.length : Int)) + ((a.getD i default).f4.length : Int), ((((((k + cntL SHead.ce (a.take i)) + 1) + 1) + 1) + ((a.getD i default).f3.length : Int)) + ((a.getD i default).f4.length : Int)) + 1, (a.getD i default).f5.f2, (a.getD i default).f5.f3, (a.getD i default).f5.f4⟩ : SQc)⟩ : SHead)).map SHead.cells))) (c := .row 900 [(i, 7)]) rfl rfl (lt_ok rfl) p_6 rfl rfl (ofRow_sl (cell_set_sl (z := 10) p_52 rfl) rfl)) ?_
  refine TL.rx 1 [(69, (pI ((((((((k + cntL SHead.ce (a.take i)) + 1) + 1) + 1) + ((a.getD i default).f3.length : Int)) + ((a.getD i default).f4.length : Int)) + 1) + 1)))] [] ?_
  refine TL.c (Step.callM2 (xs := [.tmp 68, .tmp 69]) (ps := [(.one (.row 900 [(i, 7)])), (pI ((((((((k + cntL SHead.ce (a.take i)) + 1) + 1) + 1) + ((a.getD i default).f3.length : Int)) + ((a.getD i default).f4.length : Int)) + 1) + 1))]) (js := [(900, (.sl 10 (((upTo SHead.ce SHead.me a k i).set i (⟨k + cntL SHead.ce (a.take i), (k + cntL SHead.ce (a.take i)) + 1, ((k + cntL SHead.ce (a.take i)) + 1) + 1, mkB (a.getD i default).f3 ((((k + cntL SHead.ce (a.take i)) + 1) + 1) + 1), mkB (a.getD i default).f4 (((((k + cntL SHead.ce (a.take i)) + 1) + 1) + 1) + ((a.getD i default).f3.length : Int)), (⟨(((((k + cntL SHead.ce (a.take i)) + 1) + 1) + 1) + ((a.getD i default).f3.length : Int)) + ((a.getD i default).f4.length : Int), ((((((k + cntL SHead.ce (a.take i)) + 1) + 1) + 1) + ((a.getD i default).f3.length : Int)) + ((a.getD i default).f4.length : Int)) + 1, mkB (a.getD i default).f5.f2 ((((((((k + cntL SHead.ce (a.take i)) + 1) + 1) + 1) + ((a.getD i default).f3.length : Int)) + ((a.getD i default).f4.length : Int)) + 1) + 1), (a.getD i default).f5.f3, (a.getD i default).f5.f4⟩ : SQc)⟩ : SHead)).map SHead.cells)))]) (g := .func 11) (ok_laws_markByteS (a.getD i default).f5.f2 ((((((((k + cntL SHead.ce (a.take i)) + 1) + 1) + 1) + ((a.getD i default).f3.length : Int)) + ((a.getD i default).f4.length : Int)) + 1) + 1) p_4 p_57) rfl rfl (lt_ok rfl) rfl p_6 rfl rfl (.row (T := (Ts 0)) (d := (.sl 10 (((upTo SHead.ce SHead.me a k i).set i (⟨k + cntL SHead.ce (a.take i), (k + cntL SHead.ce (a.take i)) + 1, ((k + cntL SHead.ce (a.take i)) + 1) + 1, mkB (a.getD i default).f3 ((((k + cntL SHead.ce (a.take i)) + 1) + 1) + 1), mkB (a.getD i default).f4 (((((k + cntL SHead.ce (a.take i)) + 1) + 1) + 1) + ((a.getD i default).f3.length : Int)), (⟨(((((k + cntL SHead.ce (a.take i)) + 1) + 1) + 1) + ((a.getD i default).f3.length : Int)) + ((a.getD i default).f4.length : Int), ((((((k + cntL SHead.ce (a.take i)) + 1) + 1) + 1) + ((a.getD i default).f3.length : Int)) + ((a.getD i default).f4.length : Int)) + 1, (a.getD i default).f5.f2, (a.getD i default).f5.f3, (a.getD i default).f5.f4⟩ : SQc)⟩ : SHead)).map SHead.cells))) (e' := (.ints .u8 (mkB (a.getD i default).f5.f2 ((((((((k + cntL SHead.ce (a.take i)) + 1) + 1) + 1) + ((a.getD i default).f3.length : Int)) + ((a.getD i default).f4.length : Int)) + 1) + 1)))) (d' := (.sl 10 (((upTo SHead.ce SHead.me a k i).set i (⟨k + cntL SHead.ce (a.take i), (k + cntL SHead.ce (a.take i)) + 1, ((k + cntL SHead.ce (a.take i)) + 1) + 1, mkB (a.getD i default).f3 ((((k + cntL SHead.ce (a.take i)) + 1) + 1) + 1), mkB (a.getD i default).f4 (((((k + cntL SHead.ce (a.take i)) + 1) + 1) + 1) + ((a.getD i default).f3.length : Int)), (⟨(((((k + cntL SHead.ce (a.take i)) + 1) + 1) + 1) + ((a.getD i default).f3.length : Int)) + ((a.getD i default).f4.length : Int), ((((((k + cntL SHead.ce (a.take i)) + 1) + 1) + 1) + ((a.getD i default).f3.length : Int)) + ((a.getD i default).f4.length : Int)) + 1, mkB (a.getD i default).f5.f2 ((((((((k + cntL SHead.ce (a.take i)) + 1) + 1) + 1) + ((a.getD i default).f3.length : Int)) + ((a.getD i default).f4.length : Int)) + 1) + 1), (a.getD i default).f5.f3, (a.getD i default).f5.f4⟩ : SQc)⟩ : SHead)).map SHead.cells))) rfl (cell_set_sl (z := 10) p_52 rfl) rfl (putAt_fld2 p_52 rfl) rfl p_120 rfl rfl (.d .nil)) rfl) ?_
  refine TL.rl [(1, (pI (((((((((k + cntL SHead.ce (a.take i)) + 1) + 1) + 1) + ((a.getD i default).f3.length : Int)) + ((a.getD i default).f4.length : Int)) + 1) + 1) + ((a.getD i default).f5.f2.length : Int))))] [] ?_
  refine T.wk [(0, (.one (.row 900 []))), (4, (pI 0)), (5, (pI (i : Int))), (1, (pI (((((((((k + cntL SHead.ce (a.take i)) + 1) + 1) + 1) + ((a.getD i default).f3.length : Int)) + ((a.getD i default).f4.length : Int)) + 1) + 1) + ((a.getD i default).f5.f2.length : Int))))] [(900, ((Ts 0), (.sl 10 (((upTo SHead.ce SHead.me a k i).set i (⟨k + cntL SHead.ce (a.take i), (k + cntL SHead.ce (a.take i)) + 1, ((k + cntL SHead.ce (a.take i)) + 1) + 1, mkB (a.getD i default).f3 ((((k + cntL SHead.ce (a.take i)) + 1) + 1) + 1), mkB (a.getD i default).f4 (((((k + cntL SHead.ce (a.take i)) + 1) + 1) + 1) + ((a.getD i default).f3.length : Int)), (⟨(((((k + cntL SHead.ce (a.take i)) + 1) + 1) + 1) + ((a.getD i default).f3.length : Int)) + ((a.getD i default).f4.length : Int), ((((((k + cntL SHead.ce (a.take i)) + 1) + 1) + 1) + ((a.getD i default).f3.length : Int)) + ((a.getD i default).f4.length : Int)) + 1, mkB (a.getD i default).f5.f2 ((((((((k + cntL SHead.ce (a.take i)) + 1) + 1) + 1) + ((a.getD i default).f3.length : Int)) + ((a.getD i default).f4.length : Int)) + 1) + 1), (a.getD i default).f5.f3, (a.getD i default).f5.f4⟩ : SQc)⟩ : SHead)).map SHead.cells))))] [] ?_
  refine T.sg ?_
  refine TL.rx 2 [(71, (.one (.row 900 []))), (72, (pI (i : Int)))] [] ?_
  refine TL.c (Step.index_row (d := (.sl 10 (((upTo SHead.ce SHead.me a k i).set i (⟨k + cntL SHead.ce (a.take i), (k + cntL SHead.ce (a.take i)) + 1, ((k + cntL SHead.ce (a.take i)) + 1) + 1, mkB (a.getD i default).f3 ((((k + cntL SHead.ce (a.take i)) + 1) + 1) + 1), mkB (a.getD i default).f4 (((((k + cntL SHead.ce (a.take i)) + 1) + 1) + 1) + ((a.getD i default).f3.length : Int)), (⟨(((((k + cntL SHead.ce (a.take i)) + 1) + 1) + 1) + ((a.getD i default).f3.length : Int)) + ((a.getD i default).f4.length : Int), ((((((k + cntL SHead.ce (a.take i)) + 1) + 1) + 1) + ((a.getD i default).f3.length : Int)) + ((a.getD i default).f4.length : Int)) + 1, mkB (a.getD i default).f5.f2 ((((((((k + cntL SHead.ce (a.take i)) + 1) + 1) + 1) + ((a.getD i default).f3.length : Int)) + ((a.getD i default).f4.length : Int)) + 1) + 1), (a.getD i default).f5.f3, (a.getD i default).f5.f4⟩ : SQc)⟩ : SHead)).map SHead.cells))) (e := 31) (z := 10) (i := (i : Int)) rfl rfl (lt_ok rfl) p_6 rfl rfl rfl rfl (lt_ok rfl) rfl p_17 p_49) ?_
  refine TL.c (Step.fieldAddr_r (d := (.sl 10 (((upTo SHead.ce SHead.me a k i).set i (⟨k + cntL SHead.ce (a.take i), (k + cntL SHead.ce (a.take i)) + 1, ((k + cntL SHead.ce (a.take i)) + 1) + 1, mkB (a.getD i default).f3 ((((k + cntL SHead.ce (a.take i)) + 1) + 1) + 1), mkB (a.getD i default).f4 (((((k + cntL SHead.ce (a.take i)) + 1) + 1) + 1) + ((a.getD i default).f3.length : Int)), (⟨(((((k + cntL SHead.ce (a.take i)) + 1) + 1) + 1) + ((a.getD i default).f3.length : Int)) + ((a.getD i default).f4.length : Int), ((((((k + cntL SHead.ce (a.take i)) + 1) + 1) + 1) + ((a.getD i default).f3.length : Int)) + ((a.getD i default).f4.length : Int)) + 1, mkB (a.getD i default).f5.f2 ((((((((k + cntL SHead.ce (a.take i)) + 1) + 1) + 1) + ((a.getD i default).f3.length : Int)) + ((a.getD i default).f4.length : Int)) + 1) + 1), (a.getD i default).f5.f3, (a.getD i default).f5.f4⟩ : SQc)⟩ : SHead)).map SHead.cells))) (j := 0) (off := 5) (n := 5) (one := false) rfl rfl (lt_ok rfl) p_6 (Nat.succ_ne_zero _) rfl rfl (lt_ok rfl)) ?_
  refine TL.c (Step.fieldAddr_r (d := (.sl 10 (((upTo SHead.ce SHead.me a k i).set i (⟨k + cntL SHead.ce (a.take i), (k + cntL SHead.ce (a.take i)) + 1, ((k + cntL SHead.ce (a.take i)) + 1) + 1, mkB (a.getD i default).f3 ((((k + cntL SHead.ce (a.take i)) + 1) + 1) + 1), mkB (a.getD i default).f4 (((((k + cntL SHead.ce (a.take i)) + 1) + 1) + 1) + ((a.getD i default).f3.length : Int)), (⟨(((((k + cntL SHead.ce (a.take i)) + 1) + 1) + 1) + ((a.getD i default).f3.length : Int)) + ((a.getD i default).f4.length : Int), ((((((k + cntL SHead.ce (a.take i)) + 1) + 1) + 1) + ((a.getD i default).f3.length : Int)) + ((a.getD i default).f4.length : Int)) + 1, mkB (a.getD i default).f5.f2 ((((((((k + cntL SHead.ce (a.take i)) + 1) + 1) + 1) + ((a.getD i default).f3.length : Int)) + ((a.getD i default).f4.length : Int)) + 1) + 1), (a.getD i default).f5.f3, (a.getD i default).f5.f4⟩ : SQc)⟩ : SHead)).map SHead.cells))) (j := 5) (off := 3) (n := 1) (one := true) rfl rfl (lt_ok rfl) p_6 (Nat.succ_ne_zero _) rfl rfl (lt_ok rfl)) ?_
  refine TL.c (Step.load_row (d := (.sl 10 (((upTo SHead.ce SHead.me a k i).set i (⟨k + cntL SHead.ce (a.take i), (k + cntL SHead.ce (a.take i)) + 1, ((k + cntL SHead.ce (a.take i)) + 1) + 1, mkB (a.getD i default).f3 ((((k + cntL SHead.ce (a.take i)) + 1) + 1) + 1), mkB (a.getD i default).f4 (((((k + cntL SHead.ce (a.take i)) + 1) + 1) + 1) + ((a.getD i default).f3.length : Int)), (⟨(((((k + cntL SHead.ce (a.take i)) + 1) + 1) + 1) + ((a.getD i default).f3.length : Int)) + ((a.getD i default).f4.length : Int), ((((((k + cntL SHead.ce (a.take i)) + 1) + 1) + 1) + ((a.getD i default).f3.length : Int)) + ((a.getD i default).f4.length : Int)) + 1, mkB (a.getD i default).f5.f2 ((((((((k + cntL SHead.ce (a.take i)) + 1) + 1) + 1) + ((a.getD i default).f3.length : Int)) + ((a.getD i default).f4.length : Int)) + 1) + 1), (a.getD i default).f5.f3, (a.getD i default).f5.f4⟩ : SQc)⟩ : SHead)).map SHead.cells))) (c := .row 900 [(i, 8)]) rfl rfl (lt_ok rfl) p_6 rfl rfl (ofRow_sl (cell_set_sl (z := 10) p_52 rfl) rfl)) ?_
  refine TL.rx 1 [(77, (pI (((((((((k + cntL SHead.ce (a.take i)) + 1) + 1) + 1) + ((a.getD i default).f3.length : Int)) + ((a.getD i default).f4.length : Int)) + 1) + 1) + ((a.getD i default).f5.f2.length : Int))))] [] ?_
  refine TL.c (Step.callM2 (xs := [.tmp 76, .tmp 77]) (ps := [(.one (.row 900 [(i, 8)])), (pI (((((((((k + cntL SHead.ce (a.take i)) + 1) + 1) + 1) + ((a.getD i default).f3.length : Int)) + ((a.getD i default).f4.length : Int)) + 1) + 1) + ((a.getD i default).f5.f2.length : Int)))]) (js := [(900, (.sl 10 (((upTo SHead.ce SHead.me a k i).set i (⟨k + cntL SHead.ce (a.take i), (k + cntL SHead.ce (a.take i)) + 1, ((k + cntL SHead.ce (a.take i)) + 1) + 1, mkB (a.getD i default).f3 ((((k + cntL SHead.ce (a.take i)) + 1) + 1) + 1), mkB (a.getD i default).f4 (((((k + cntL SHead.ce (a.take i)) + 1) + 1) + 1) + ((a.getD i default).f3.length : Int)), (⟨(((((k + cntL SHead.ce (a.take i)) + 1) + 1) + 1) + ((a.getD i default).f3.length : Int)) + ((a.getD i default).f4.length : Int), ((((((k + cntL SHead.ce (a.take i)) + 1) + 1) + 1) + ((a.getD i default).f3.length : Int)) + ((a.getD i default).f4.length : Int)) + 1, mkB (a.getD i default).f5.f2 ((((((((k + cntL SHead.ce (a.take i)) + 1) + 1) + 1) + ((a.getD i default).f3.length : Int)) + ((a.getD i default).f4.length : Int)) + 1) + 1), mkB (a.getD i default).f5.f3 (((((((((k + cntL SHead.ce (a.take i)) + 1) + 1) + 1) + ((a.getD i default).f3.length : Int)) + ((a.getD i default).f4.length : Int)) + 1) + 1) + ((a.getD i default).f5.f2.length : Int)), (a.getD i default).f5.f4⟩ : SQc)⟩ : SHead)).map SHead.cells)))]) (g := .func 11) (ok_laws_markByteS (a.getD i default).f5.f3 (((((((((k + cntL SHead.ce (a.take i)) + 1) + 1) + 1) + ((a.getD i default).f3.length : Int)) + ((a.getD i default).f4.length : Int)) + 1) + 1) + ((a.getD i default).f5.f2.length : Int)) p_4 p_57) rfl rfl (lt_ok rfl) rfl p_6 rfl rfl (.row (T := (Ts 0)) (d := (.sl 10 (((upTo SHead.ce SHead.me a k i).set i (⟨k + cntL SHead.ce (a.take i), (k + cntL SHead.ce (a.take i)) + 1, ((k + cntL SHead.ce (a.take i)) + 1) + 1, mkB (a.getD i default).f3 ((((k + cntL SHead.ce (a.take i)) + 1) + 1) + 1), mkB (a.getD i default).f4 (((((k + cntL SHead.ce (a.take i)) + 1) + 1) + 1) + ((a.getD i default).f3.length : Int)), (⟨(((((k + cntL SHead.ce (a.take i)) + 1) + 1) + 1) + ((a.getD i default).f3.length : Int)) + ((a.getD i default).f4.length : Int), ((((((k + cntL SHead.ce (a.take i)) + 1) + 1) + 1) + ((a.getD i default).f3.length : Int)) + ((a.getD i default).f4.length : Int)) + 1, mkB (a.getD i default).f5.f2 ((((((((k + cntL SHead.ce (a.take i)) + 1) + 1) + 1) + ((a.getD i default).f3.length : Int)) + ((a.getD i default).f4.length : Int)) + 1) + 1), (a.getD i default).f5.f3, (a.getD i default).f5.f4⟩ : SQc)⟩ : SHead)).map SHead.cells))) (e' := (.ints .u8 (mkB (a.getD i default).f5.f3 (((((((((k + cntL SHead.ce (a.take i)) + 1) + 1) + 1) + ((a.getD i default).f3.length : Int)) + ((a.getD i default).f4.length : Int)) + 1) + 1) + ((a.getD i default).f5.f2.length : Int))))) (d' := (.sl 10 (((upTo SHead.ce SHead.me a k i).set i (⟨k + cntL SHead.ce (a.take i), (k + cntL SHead.ce (a.take i)) + 1, ((k + cntL SHead.ce (a.take i)) + 1) + 1, mkB (a.getD i default).f3 ((((k + cntL SHead.ce (a.take i)) + 1) + 1) + 1), mkB (a.getD i default).f4 (((((k + cntL SHead.ce (a.take i)) + 1) + 1) + 1) + ((a.getD i default).f3.length : Int)), (⟨(((((k + cntL SHead.ce (a.take i)) + 1) + 1) + 1) + ((a.getD i default).f3.length : Int)) + ((a.getD i default).f4.length : Int), ((((((k + cntL SHead.ce (a.take i)) + 1) + 1) + 1) + ((a.getD i default).f3.length : Int)) + ((a.getD i default).f4.length : Int)) + 1, mkB (a.getD i default).f5.f2 ((((((((k + cntL SHead.ce (a.take i)) + 1) + 1) + 1) + ((a.getD i default).f3.length : Int)) + ((a.getD i default).f4.length : Int)) + 1) + 1), mkB (a.getD i default).f5.f3 (((((((((k + cntL SHead.ce (a.take i)) + 1) + 1) + 1) + ((a.getD i default).f3.length : Int)) + ((a.getD i default).f4.length : Int)) + 1) + 1) + ((a.getD i default).f5.f2.length : Int)), (a.getD i default).f5.f4⟩ : SQc)⟩ : SHead)).map SHead.cells))) rfl (cell_set_sl (z := 10) p_52 rfl) rfl (putAt_fld2 p_52 rfl) rfl p_120 rfl rfl (.d .nil)) rfl) ?_
  refine TL.rl [(1, (pI ((((((((((k + cntL SHead.ce (a.take i)) + 1) + 1) + 1) + ((a.getD i default).f3.length : Int)) + ((a.getD i default).f4.length : Int)) + 1) + 1) + ((a.getD i default).f5.f2.length : Int)) + ((a.getD i default).f5.f3.length : Int))))] [] ?_
  refine T.region ?_
  refine TL.rx 2 [(79, (.one (.row 900 []))), (80, (pI (i : Int)))] [] ?_
  refine TL.c (Step.index_row (d := (.sl 10 (((upTo SHead.ce SHead.me a k i).set i (⟨k + cntL SHead.ce (a.take i), (k + cntL SHead.ce (a.take i)) + 1, ((k + cntL SHead.ce (a.take i)) + 1) + 1, mkB (a.getD i default).f3 ((((k + cntL SHead.ce (a.take i)) + 1) + 1) + 1), mkB (a.getD i default).f4 (((((k + cntL SHead.ce (a.take i)) + 1) + 1) + 1) + ((a.getD i default).f3.length : Int)), (⟨(((((k + cntL SHead.ce (a.take i)) + 1) + 1) + 1) + ((a.getD i default).f3.length : Int)) + ((a.getD i default).f4.length : Int), ((((((k + cntL SHead.ce (a.take i)) + 1) + 1) + 1) + ((a.getD i default).f3.length : Int)) + ((a.getD i default).f4.length : Int)) + 1, mkB (a.getD i default).f5.f2 ((((((((k + cntL SHead.ce (a.take i)) + 1) + 1) + 1) + ((a.getD i default).f3.length : Int)) + ((a.getD i default).f4.length : Int)) + 1) + 1), mkB (a.getD i default).f5.f3 (((((((((k + cntL SHead.ce (a.take i)) + 1) + 1) + 1) + ((a.getD i default).f3.length : Int)) + ((a.getD i default).f4.length : Int)) + 1) + 1) + ((a.getD i default).f5.f2.length : Int)), (a.getD i default).f5.f4⟩ : SQc)⟩ : SHead)).map SHead.cells))) (e := 31) (z := 10) (i := (i : Int)) rfl rfl (lt_ok rfl) p_6 rfl rfl rfl rfl (lt_ok rfl) rfl p_17 p_49) ?_
  refine TL.c (Step.fieldAddr_r (d := (.sl 10 (((upTo SHead.ce SHead.me a k i).set i (⟨k + cntL SHead.ce (a.take i), (k + cntL SHead.ce (a.take i)) + 1, ((k + cntL SHead.ce (a.take i)) + 1) + 1, mkB (a.getD i default).f3 ((((k + cntL SHead.ce (a.take i)) + 1) + 1) + 1), mkB (a.getD i default).f4 (((((k + cntL SHead.ce (a.take i)) + 1) + 1) + 1) + ((a.getD i default).f3.length : Int)), (⟨(((((k + cntL SHead.ce (a.take i)) + 1) + 1) + 1) + ((a.getD i default).f3.length : Int)) + ((a.getD i default).f4.length : Int), ((((((k + cntL SHead.ce (a.take i)) + 1) + 1) + 1) + ((a.getD i default).f3.length : Int)) + ((a.getD i default).f4.length : Int)) + 1, mkB (a.getD i default).f5.f2 ((((((((k + cntL SHead.ce (a.take i)) + 1) + 1) + 1) + ((a.getD i default).f3.length : Int)) + ((a.getD i default).f4.length : Int)) + 1) + 1), mkB (a.getD i default).f5.f3 (((((((((k + cntL SHead.ce (a.take i)) + 1) + 1) + 1) + ((a.getD i default).f3.length : Int)) + ((a.getD i default).f4.length : Int)) + 1) + 1) + ((a.getD i default).f5.f2.length : Int)), (a.getD i default).f5.f4⟩ : SQc)⟩ : SHead)).map SHead.cells))) (j := 0) (off := 5) (n := 5) (one := false) rfl rfl (lt_ok rfl) p_6 (Nat.succ_ne_zero _) rfl rfl (lt_ok rfl)) ?_
  refine TL.c (Step.fieldAddr_r (d := (.sl 10 (((upTo SHead.ce SHead.me a k i).set i (⟨k + cntL SHead.ce (a.take i), (k + cntL SHead.ce (a.take i)) + 1, ((k + cntL SHead.ce (a.take i)) + 1) + 1, mkB (a.getD i default).f3 ((((k + cntL SHead.ce (a.take i)) + 1) + 1) + 1), mkB (a.getD i default).f4 (((((k + cntL SHead.ce (a.take i)) + 1) + 1) + 1) + ((a.getD i default).f3.length : Int)), (⟨(((((k + cntL SHead.ce (a.take i)) + 1) + 1) + 1) + ((a.getD i default).f3.length : Int)) + ((a.getD i default).f4.length : Int), ((((((k + cntL SHead.ce (a.take i)) + 1) + 1) + 1) + ((a.getD i default).f3.length : Int)) + ((a.getD i default).f4.length : Int)) + 1, mkB (a.getD i default).f5.f2 ((((((((k + cntL SHead.ce (a.take i)) + 1) + 1) + 1) + ((a.getD i default).f3.length : Int)) + ((a.getD i default).f4.length : Int)) + 1) + 1), mkB (a.getD i default).f5.f3 (((((((((k + cntL SHead.ce (a.take i)) + 1) + 1) + 1) + ((a.getD i default).f3.length : Int)) + ((a.getD i default).f4.length : Int)) + 1) + 1) + ((a.getD i default).f5.f2.length : Int)), (a.getD i default).f5.f4⟩ : SQc)⟩ : SHead)).map SHead.cells))) (j := 5) (off := 4) (n := 1) (one := true) rfl rfl (lt_ok rfl) p_6 (Nat.succ_ne_zero _) rfl rfl (lt_ok rfl)) ?_
  refine TL.c (Step.load_row (d := (.sl 10 (((upTo SHead.ce SHead.me a k i).set i (⟨k + cntL SHead.ce (a.take i), (k + cntL SHead.ce (a.take i)) + 1, ((k + cntL SHead.ce (a.take i)) + 1) + 1, mkB (a.getD i default).f3 ((((k + cntL SHead.ce (a.take i)) + 1) + 1) + 1), mkB (a.getD i default).f4 (((((k + cntL SHead.ce (a.take i)) + 1) + 1) + 1) + ((a.getD i default).f3.length : Int)), (⟨(((((k + cntL SHead.ce (a.take i)) + 1) + 1) + 1) + ((a.getD i default).f3.length : Int)) + ((a.getD i default).f4.length : Int), ((((((k + cntL SHead.ce (a.take i)) + 1) + 1) + 1) + ((a.getD i default).f3.length : Int)) + ((a.getD i default).f4.length : Int)) + 1, mkB (a.getD i default).f5.f2 ((((((((k + cntL SHead.ce (a.take i)) + 1) + 1) + 1) + ((a.getD i default).f3.length : Int)) + ((a.getD i default).f4.length : Int)) + 1) + 1), mkB (a.getD i default).f5.f3 (((((((((k + cntL SHead.ce (a.take i)) + 1) + 1) + 1) + ((a.getD i default).f3.length : Int)) + ((a.getD i default).f4.length : Int)) + 1) + 1) + ((a.getD i default).f5.f2.length : Int)), (a.getD i default).f5.f4⟩ : SQc)⟩ : SHead)).map SHead.cells))) (c := .row 900 [(i, 9)]) rfl rfl (lt_ok rfl) p_6 rfl rfl (ofRow_sl (cell_set_sl (z := 10) p_52 rfl) rfl)) ?_
  refine TL.rx 1 [(85, (pI ((((((((((k + cntL SHead.ce (a.take i)) + 1) + 1) + 1) + ((a.getD i default).f3.length : Int)) + ((a.getD i default).f4.length : Int)) + 1) + 1) + ((a.getD i default).f5.f2.length : Int)) + ((a.getD i default).f5.f3.length : Int))))] [] ?_
  have nn2 := cntBs_nonneg (a.getD i default).f5.f4
  refine TL.c (Step.callM2 (xs := [.tmp 84, .tmp 85]) (ps := [(.one (.row 900 [(i, 9)])), (pI ((((((((((k + cntL SHead.ce (a.take i)) + 1) + 1) + 1) + ((a.getD i default).f3.length : Int)) + ((a.getD i default).f4.length : Int)) + 1) + 1) + ((a.getD i default).f5.f2.length : Int)) + ((a.getD i default).f5.f3.length : Int)))]) (js := [(900, (.sl 10 (((upTo SHead.ce SHead.me a k i).set i (⟨k + cntL SHead.ce (a.take i), (k + cntL SHead.ce (a.take i)) + 1, ((k + cntL SHead.ce (a.take i)) + 1) + 1, mkB (a.getD i default).f3 ((((k + cntL SHead.ce (a.take i)) + 1) + 1) + 1), mkB (a.getD i default).f4 (((((k + cntL SHead.ce (a.take i)) + 1) + 1) + 1) + ((a.getD i default).f3.length : Int)), (⟨(((((k + cntL SHead.ce (a.take i)) + 1) + 1) + 1) + ((a.getD i default).f3.length : Int)) + ((a.getD i default).f4.length : Int), ((((((k + cntL SHead.ce (a.take i)) + 1) + 1) + 1) + ((a.getD i default).f3.length : Int)) + ((a.getD i default).f4.length : Int)) + 1, mkB (a.getD i default).f5.f2 ((((((((k + cntL SHead.ce (a.take i)) + 1) + 1) + 1) + ((a.getD i default).f3.length : Int)) + ((a.getD i default).f4.length : Int)) + 1) + 1), mkB (a.getD i default).f5.f3 (((((((((k + cntL SHead.ce (a.take i)) + 1) + 1) + 1) + ((a.getD i default).f3.length : Int)) + ((a.getD i default).f4.length : Int)) + 1) + 1) + ((a.getD i default).f5.f2.length : Int)), mkBs (a.getD i default).f5.f4 ((((((((((k + cntL SHead.ce (a.take i)) + 1) + 1) + 1) + ((a.getD i default).f3.length : Int)) + ((a.getD i default).f4.length : Int)) + 1) + 1) + ((a.getD i default).f5.f2.length : Int)) + ((a.getD i default).f5.f3.length : Int))⟩ : SQc)⟩ : SHead)).map SHead.cells)))]) (g := .func 89) (ok_laws_markByteSS (a.getD i default).f5.f4 ((((((((((k + cntL SHead.ce (a.take i)) + 1) + 1) + 1) + ((a.getD i default).f3.length : Int)) + ((a.getD i default).f4.length : Int)) + 1) + 1) + ((a.getD i default).f5.f2.length : Int)) + ((a.getD i default).f5.f3.length : Int)) p_4 (by first | omega | (have := cntBs_le (xs := (a.getD i default).f5.f4) (by assumption); omega))) rfl rfl (lt_ok rfl) rfl p_6 rfl rfl (.row (T := (Ts 0)) (d := (.sl 10 (((upTo SHead.ce SHead.me a k i).set i (⟨k + cntL SHead.ce (a.take i), (k + cntL SHead.ce (a.take i)) + 1, ((k + cntL SHead.ce (a.take i)) + 1) + 1, mkB (a.getD i default).f3 ((((k + cntL SHead.ce (a.take i)) + 1) + 1) + 1), mkB (a.getD i default).f4 (((((k + cntL SHead.ce (a.take i)) + 1) + 1) + 1) + ((a.getD i default).f3.length : Int)), (⟨(((((k + cntL SHead.ce (a.take i)) + 1) + 1) + 1) + ((a.getD i default).f3.length : Int)) + ((a.getD i default).f4.length : Int), ((((((k + cntL SHead.ce (a.take i)) + 1) + 1) + 1) + ((a.getD i default).f3.length : Int)) + ((a.getD i default).f4.length : Int)) + 1, mkB (a.getD i default).f5.f2 ((((((((k + cntL SHead.ce (a.take i)) + 1) + 1) + 1) + ((a.getD i default).f3.length : Int)) + ((a.getD i default).f4.length : Int)) + 1) + 1), mkB (a.getD i default).f5.f3 (((((((((k + cntL SHead.ce (a.take i)) + 1) + 1) + 1) + ((a.getD i default).f3.length : Int)) + ((a.getD i default).f4.length : Int)) + 1) + 1) + ((a.getD i default).f5.f2.length : Int)), (a.getD i default).f5.f4⟩ : SQc)⟩ : SHead)).map SHead.cells))) (e' := (.bss (mkBs (a.getD i default).f5.f4 ((((((((((k + cntL SHead.ce (a.take i)) + 1) + 1) + 1) + ((a.getD i default).f3.length : Int)) + ((a.getD i default).f4.length : Int)) + 1) + 1) + ((a.getD i default).f5.f2.length : Int)) + ((a.getD i default).f5.f3.length : Int))))) (d' := (.sl 10 (((upTo SHead.ce SHead.me a k i).set i (⟨k + cntL SHead.ce (a.take i), (k + cntL SHead.ce (a.take i)) + 1, ((k + cntL SHead.ce (a.take i)) + 1) + 1, mkB (a.getD i default).f3 ((((k + cntL SHead.ce (a.take i)) + 1) + 1) + 1), mkB (a.getD i default).f4 (((((k + cntL SHead.ce (a.take i)) + 1) + 1) + 1) + ((a.getD i default).f3.length : Int)), (⟨(((((k + cntL SHead.ce (a.take i)) + 1) + 1) + 1) + ((a.getD i default).f3.length : Int)) + ((a.getD i default).f4.length : Int), ((((((k + cntL SHead.ce (a.take i)) + 1) + 1) + 1) + ((a.getD i default).f3.length : Int)) + ((a.getD i default).f4.length : Int)) + 1, mkB (a.getD i default).f5.f2 ((((((((k + cntL SHead.ce (a.take i)) + 1) + 1) + 1) + ((a.getD i default).f3.length : Int)) + ((a.getD i default).f4.length : Int)) + 1) + 1), mkB (a.getD i default).f5.f3 (((((((((k + cntL SHead.ce (a.take i)) + 1) + 1) + 1) + ((a.getD i default).f3.length : Int)) + ((a.getD i default).f4.length : Int)) + 1) + 1) + ((a.getD i default).f5.f2.length : Int)), mkBs (a.getD i default).f5.f4 ((((((((((k + cntL SHead.ce (a.take i)) + 1) + 1) + 1) + ((a.getD i default).f3.length : Int)) + ((a.getD i default).f4.length : Int)) + 1) + 1) + ((a.getD i default).f5.f2.length : Int)) + ((a.getD i default).f5.f3.length : Int))⟩ : SQc)⟩ : SHead)).map SHead.cells))) rfl (cell_set_sl (z := 10) p_52 rfl) rfl (putAt_fld2 p_52 rfl) rfl p_120 rfl rfl (.d .nil)) rfl) ?_
  refine TL.rl [(1, (pI (((((((((((k + cntL SHead.ce (a.take i)) + 1) + 1) + 1) + ((a.getD i default).f3.length : Int)) + ((a.getD i default).f4.length : Int)) + 1) + 1) + ((a.getD i default).f5.f2.length : Int)) + ((a.getD i default).f5.f3.length : Int)) + cntL (fun x : List Int => (x.length : Int)) (a.getD i default).f5.f4)))] [] ?_
  refine T.region ?_
  refine TL.rx 1 [(10, (pI (i : Int)))] [] ?_
  refine TL.ad ((i : Int) + 1) ?_
  refine TL.rl [(5, (pI ((i : Int) + 1)))] [] ?_
  refine ⟨i + 1, by omega, by first | omega | (dsimp only; omega), Env.le_mk ⟨rfl, rfl, ?_, ?_, trivial⟩ ⟨?_, trivial⟩ trivial⟩ <;> exact p_78
 refine T.exit ?_
 refine T.sr [(4, (pI (k + cntL SHead.ce (a.take i))))] [] ?_
 refine T.ret ?_
 refine ⟨⟨⟨_, (.cons rfl .nil), rfl, _, (.r ?_ .nil)⟩, rfl⟩, (.mk' (by exact congrArg (fun x => some (Ts 0, D.sl 10 (List.map SHead.cells x))) (upTo_end (by omega))) (.rd .nil'))⟩ <;> ((congr 1; rw [cntL_all p_4]))
theorem ok_laws_markProof (a : SProof) (k : Int) (h0_ : 0 ≤ k) (h1_ : k + a.cm ≤ 4611686018427387904) : MK Tryz.prog 47 [.agg [.mk (.sl 10 (a.f0.map SHead.cells)) (.sl 10 ((mkL SHead.ce SHead.me a.f0 k).map SHead.cells)), .rd (.int .i64 a.f1.f0), .rd (.int .i64 a.f1.f1), .mk (.ints .u8 a.f1.f2) (.ints .u8 (mkB a.f1.f2 (k + cntL SHead.ce a.f0))), .mk (.ints .u8 a.f1.f3) (.ints .u8 (mkB a.f1.f3 ((k + cntL SHead.ce a.f0) + (a.f1.f2.length : Int)))), .mk (.bss a.f1.f4) (.bss (mkBs a.f1.f4 (((k + cntL SHead.ce a.f0) + (a.f1.f2.length : Int)) + (a.f1.f3.length : Int))))], .one (.rd (.int .i64 k))] [(false, [.rd (.int .i64 (k + a.cm))])] := by
 refine MK.intro Tryz.func47 rfl 14 rfl (le_ok rfl) (le_ok rfl) rfl fun w Z IX pin Ts hp => ?_
 have n0 := cntL_nonneg SHead.ce_nn a.f0
 have n1 := SQc.cm_nn a.f1
 simp only [SProof.cm] at h1_
 refine T.sr [(2, (.one (.ptr 2 0))), (4, (pI 0))] [(2, (39, [.row 900 [], cI a.f1.f0, cI a.f1.f1, .row 903 [], .row 904 [], .row 905 []]))] ?_
 refine T.sg ?_
 refine TL.rx 3 [(6, (.one (.row 900 []))), (7, (pI k))] [] ?_
 have nn1 := cntL_nonneg SHead.ce_nn a.f0
 refine TL.c (Step.callM2 (xs := [.tmp 6, .tmp 7]) (ps := [(.one (.row 900 [])), (pI k)]) (js := [(900, (.sl 10 ((mkL SHead.ce SHead.me a.f0 k).map SHead.cells)))]) (g := .func 91) (ok_laws_markHeadS a.f0 k p_4 (by first | omega | (have := SHead.cL_le (xs := a.f0) (by assumption); omega))) rfl rfl (lt_ok rfl) rfl p_6 rfl rfl (.row (T := (Ts 0)) (d := (.sl 10 (a.f0.map SHead.cells))) (e' := (.sl 10 ((mkL SHead.ce SHead.me a.f0 k).map SHead.cells))) (d' := (.sl 10 ((mkL SHead.ce SHead.me a.f0 k).map SHead.cells))) rfl rfl rfl rfl rfl p_45 rfl rfl (.d .nil)) rfl) ?_
 refine TL.rl [(1, (pI (k + cntL SHead.ce a.f0)))] [] ?_
 refine T.sg ?_
 refine TL.rx 3 [(10, (.agg [cI a.f1.f0, cI a.f1.f1, .row 903 [], .row 904 [], .row 905 []])), (11, (pI (k + cntL SHead.ce a.f0)))] [] ?_
 have nn2 := SQc.cm_nn a.f1
 refine TL.c (Step.callM2 (xs := [.tmp 10, .tmp 11]) (ps := [(.agg [cI a.f1.f0, cI a.f1.f1, .row 903 [], .row 904 [], .row 905 []]), (pI (k + cntL SHead.ce a.f0))]) (js := [(903, (.ints .u8 (mkB a.f1.f2 (k + cntL SHead.ce a.f0)))), (904, (.ints .u8 (mkB a.f1.f3 ((k + cntL SHead.ce a.f0) + (a.f1.f2.length : Int))))), (905, (.bss (mkBs a.f1.f4 (((k + cntL SHead.ce a.f0) + (a.f1.f2.length : Int)) + (a.f1.f3.length : Int)))))]) (g := .func 43) (ok_laws_markQc a.f1 (k + cntL SHead.ce a.f0) p_4 (by first | omega | (have := SQc.cm_le (x := a.f1) (by assumption); omega))) rfl rfl (lt_ok rfl) rfl p_6 rfl rfl (.d (.d (.row (T := (Ts 3)) (d := (.ints .u8 a.f1.f2)) (e' := (.ints .u8 (mkB a.f1.f2 (k + cntL SHead.ce a.f0)))) (d' := (.ints .u8 (mkB a.f1.f2 (k + cntL SHead.ce a.f0)))) rfl rfl rfl rfl rfl p_45 rfl rfl (.row (T := (Ts 4)) (d := (.ints .u8 a.f1.f3)) (e' := (.ints .u8 (mkB a.f1.f3 ((k + cntL SHead.ce a.f0) + (a.f1.f2.length : Int))))) (d' := (.ints .u8 (mkB a.f1.f3 ((k + cntL SHead.ce a.f0) + (a.f1.f2.length : Int))))) rfl rfl rfl rfl rfl p_45 rfl rfl (.row (T := (Ts 5)) (d := (.bss a.f1.f4)) (e' := (.bss (mkBs a.f1.f4 (((k + cntL SHead.ce a.f0) + (a.f1.f2.length : Int)) + (a.f1.f3.length : Int))))) (d' := (.bss (mkBs a.f1.f4 (((k + cntL SHead.ce a.f0) + (a.f1.f2.length : Int)) + (a.f1.f3.length : Int))))) rfl rfl rfl rfl rfl p_45 rfl rfl (.d .nil)))))) rfl) ?_
 refine TL.rl [(1, (pI ((k + cntL SHead.ce a.f0) + a.f1.cm)))] [] ?_
 refine T.sr [(4, (pI ((k + cntL SHead.ce a.f0) + a.f1.cm)))] [] ?_
 refine T.ret ?_
 refine ⟨⟨⟨_, (.cons rfl .nil), rfl, _, (.r ?_ .nil)⟩, rfl⟩, (.mk' p_122 (.rd (.rd (.mk' p_122 (.mk' p_122 (.mk' p_122 (.rd .nil')))))))⟩ <;> (first | rfl | (congr 1; simp only [SProof.cm]; omega))
theorem ok_laws_markIncl (a : SIncl) (k : Int) (h0_ : 0 ≤ k) (h1_ : k + a.cm ≤ 4611686018427387904) : MK Tryz.prog 48 [.agg [.rd (.int .i64 a.f0), .rd (.int .i64 a.f1), .rd (.int .i64 a.f2), .mk (.ints .u8 a.f3) (.ints .u8 (mkB a.f3 k)), .mk (.bss a.f4) (.bss (mkBs a.f4 (k + (a.f3.length : Int))))], .one (.rd (.int .i64 k))] [(false, [.rd (.int .i64 (k + a.cm))])] := by
 refine MK.intro Tryz.func48 rfl 14 rfl (le_ok rfl) (le_ok rfl) rfl fun w Z IX pin Ts hp => ?_
 have n4 := cntBs_nonneg a.f4
 simp only [SIncl.cm] at h1_
 refine T.sr [(2, (.one (.ptr 2 0))), (4, (pI 0))] [(2, (41, [cI a.f0, cI a.f1, cI a.f2, .row 903 [], .row 904 []]))] ?_
 refine T.sg ?_
 refine TL.rx 3 [(6, (.one (.row 903 []))), (7, (pI k))] [] ?_
 refine TL.c (Step.callM2 (xs := [.tmp 6, .tmp 7]) (ps := [(.one (.row 903 [])), (pI k)]) (js := [(903, (.ints .u8 (mkB a.f3 k)))]) (g := .func 11) (ok_laws_markByteS a.f3 k p_4 p_57) rfl rfl (lt_ok rfl) rfl p_6 rfl rfl (.row (T := (Ts 3)) (d := (.ints .u8 a.f3)) (e' := (.ints .u8 (mkB a.f3 k))) (d' := (.ints .u8 (mkB a.f3 k))) rfl rfl rfl rfl rfl p_45 rfl rfl (.d .nil)) rfl) ?_
 refine TL.rl [(1, (pI (k + (a.f3.length : Int))))] [] ?_
 refine T.sg ?_
 refine TL.rx 3 [(10, (.one (.row 904 []))), (11, (pI (k + (a.f3.length : Int))))] [] ?_
 have nn1 := cntBs_nonneg a.f4
 refine TL.c (Step.callM2 (xs := [.tmp 10, .tmp 11]) (ps := [(.one (.row 904 [])), (pI (k + (a.f3.length : Int)))]) (js := [(904, (.bss (mkBs a.f4 (k + (a.f3.length : Int)))))]) (g := .func 89) (ok_laws_markByteSS a.f4 (k + (a.f3.length : Int)) p_4 p_115) rfl rfl (lt_ok rfl) rfl p_6 rfl rfl (.row (T := (Ts 4)) (d := (.bss a.f4)) (e' := (.bss (mkBs a.f4 (k + (a.f3.length : Int))))) (d' := (.bss (mkBs a.f4 (k + (a.f3.length : Int))))) rfl rfl rfl rfl rfl p_45 rfl rfl (.d .nil)) rfl) ?_
 refine TL.rl [(1, (pI ((k + (a.f3.length : Int)) + cntL (fun x : List Int => (x.length : Int)) a.f4)))] [] ?_
 refine T.sr [(4, (pI ((k + (a.f3.length : Int)) + cntL (fun x : List Int => (x.length : Int)) a.f4)))] [] ?_
 refine T.ret ?_
 refine ⟨⟨⟨_, (.cons rfl .nil), rfl, _, (.r ?_ .nil)⟩, rfl⟩, (.rd (.rd (.rd (.mk' p_122 (.mk' p_122 (.rd .nil'))))))⟩ <;> (first | rfl | (congr 1; simp only [SIncl.cm]; omega))
theorem ok_laws_markMsg (a : SMsg) (k : Int) (h0_ : 0 ≤ k) (h1_ : k + a.cm ≤ 4611686018427387904) : MK Tryz.prog 12 [.agg [.rd (.int .i64 a.f0), .rd (.int .i64 a.f1.f0), .rd (.int .i64 a.f1.f1), .mk (.ints .u8 a.f1.f2) (.ints .u8 (mkB a.f1.f2 k)), .rd (.int .i64 a.f1.f3), .mk (.ints .u8 a.f1.f4) (.ints .u8 (mkB a.f1.f4 (k + (a.f1.f2.length : Int)))), .rd (.int .i64 a.f2.f0), .rd (.int .i64 a.f2.f1), .mk (.ints .u8 a.f2.f2) (.ints .u8 (mkB a.f2.f2 (k + a.f1.cm))), .mk (.ints .u8 a.f2.f3) (.ints .u8 (mkB a.f2.f3 ((k + a.f1.cm) + (a.f2.f2.length : Int)))), .mk (.bss a.f2.f4) (.bss (mkBs a.f2.f4 (((k + a.f1.cm) + (a.f2.f2.length : Int)) + (a.f2.f3.length : Int)))), .rd (.int .i64 a.f3.f0), .rd (.int .i64 a.f3.f1), .rd (.int .i64 a.f3.f2), .mk (.ints .u8 a.f3.f3) (.ints .u8 (mkB a.f3.f3 ((k + a.f1.cm) + a.f2.cm))), .mk (.ints .u8 a.f3.f4) (.ints .u8 (mkB a.f3.f4 (((k + a.f1.cm) + a.f2.cm) + (a.f3.f3.length : Int)))), .rd (.int .i64 a.f3.f5.f0), .rd (.int .i64 a.f3.f5.f1), .mk (.ints .u8 a.f3.f5.f2) (.ints .u8 (mkB a.f3.f5.f2 ((((k + a.f1.cm) + a.f2.cm) + (a.f3.f3.length : Int)) + (a.f3.f4.length : Int)))), .mk (.ints .u8 a.f3.f5.f3) (.ints .u8 (mkB a.f3.f5.f3 (((((k + a.f1.cm) + a.f2.cm) + (a.f3.f3.length : Int)) + (a.f3.f4.length : Int)) + (a.f3.f5.f2.length : Int)))), .mk (.bss a.f3.f5.f4) (.bss (mkBs a.f3.f5.f4 ((((((k + a.f1.cm) + a.f2.cm) + (a.f3.f3.length : Int)) + (a.f3.f4.length : Int)) + (a.f3.f5.f2.length : Int)) + (a.f3.f5.f3.length : Int)))), .rd (.int .i64 a.f4.f0.f0), .rd (.int .i64 a.f4.f0.f1), .rd (.int .i64 a.f4.f0.f2), .mk (.ints .u8 a.f4.f0.f3) (.ints .u8 (mkB a.f4.f0.f3 (((k + a.f1.cm) + a.f2.cm) + a.f3.cm))), .mk (.ints .u8 a.f4.f0.f4) (.ints .u8 (mkB a.f4.f0.f4 ((((k + a.f1.cm) + a.f2.cm) + a.f3.cm) + (a.f4.f0.f3.length : Int)))), .rd (.int .i64 a.f4.f0.f5.f0), .rd (.int .i64 a.f4.f0.f5.f1), .mk (.ints .u8 a.f4.f0.f5.f2) (.ints .u8 (mkB a.f4.f0.f5.f2 (((((k + a.f1.cm) + a.f2.cm) + a.f3.cm) + (a.f4.f0.f3.length : Int)) + (a.f4.f0.f4.length : Int)))), .mk (.ints .u8 a.f4.f0.f5.f3) (.ints .u8 (mkB a.f4.f0.f5.f3 ((((((k + a.f1.cm) + a.f2.cm) + a.f3.cm) + (a.f4.f0.f3.length : Int)) + (a.f4.f0.f4.length : Int)) + (a.f4.f0.f5.f2.length : Int)))), .mk (.bss a.f4.f0.f5.f4) (.bss (mkBs a.f4.f0.f5.f4 (((((((k + a.f1.cm) + a.f2.cm) + a.f3.cm) + (a.f4.f0.f3.length : Int)) + (a.f4.f0.f4.length : Int)) + (a.f4.f0.f5.f2.length : Int)) + (a.f4.f0.f5.f3.length : Int)))), .mk (.bss a.f4.f1) (.bss (mkBs a.f4.f1 ((((k + a.f1.cm) + a.f2.cm) + a.f3.cm) + a.f4.f0.cm))), .rd (.int .i64 a.f5.f0), .mk (.sl 3 (a.f5.f1.map SEntry.cells)) (.sl 3 ((mkL SEntry.ce SEntry.me a.f5.f1 ((((k + a.f1.cm) + a.f2.cm) + a.f3.cm) + a.f4.cm)).map SEntry.cells)), .mk (.sl 10 (a.f6.f0.map SHead.cells)) (.sl 10 ((mkL SHead.ce SHead.me a.f6.f0 (((((k + a.f1.cm) + a.f2.cm) + a.f3.cm) + a.f4.cm) + a.f5.cm)).map SHead.cells)), .rd (.int .i64 a.f6.f1.f0), .rd (.int .i64 a.f6.f1.f1), .mk (.ints .u8 a.f6.f1.f2) (.ints .u8 (mkB a.f6.f1.f2 ((((((k + a.f1.cm) + a.f2.cm) + a.f3.cm) + a.f4.cm) + a.f5.cm) + cntL SHead.ce a.f6.f0))), .mk (.ints .u8 a.f6.f1.f3) (.ints .u8 (mkB a.f6.f1.f3 (((((((k + a.f1.cm) + a.f2.cm) + a.f3.cm) + a.f4.cm) + a.f5.cm) + cntL SHead.ce a.f6.f0) + (a.f6.f1.f2.length : Int)))), .mk (.bss a.f6.f1.f4) (.bss (mkBs a.f6.f1.f4 ((((((((k + a.f1.cm) + a.f2.cm) + a.f3.cm) + a.f4.cm) + a.f5.cm) + cntL SHead.ce a.f6.f0) + (a.f6.f1.f2.length : Int)) + (a.f6.f1.f3.length : Int)))), .rd (.int .i64 a.f7.f0), .rd (.int .i64 a.f7.f1), .rd (.int .i64 a.f7.f2), .mk (.ints .u8 a.f7.f3) (.ints .u8 (mkB a.f7.f3 ((((((k + a.f1.cm) + a.f2.cm) + a.f3.cm) + a.f4.cm) + a.f5.cm) + a.f6.cm))), .mk (.bss a.f7.f4) (.bss (mkBs a.f7.f4 (((((((k + a.f1.cm) + a.f2.cm) + a.f3.cm) + a.f4.cm) + a.f5.cm) + a.f6.cm) + (a.f7.f3.length : Int))))], .one (.rd (.int .i64 k))] [(false, [.rd (.int .i64 (k + a.cm))])] := by
 refine MK.intro Tryz.func12 rfl 34 rfl (le_ok rfl) (le_ok rfl) rfl fun w Z IX pin Ts hp => ?_
 have n1 := SVote.cm_nn a.f1
 have n2 := SQc.cm_nn a.f2
 have n3 := SHead.cm_nn a.f3
 have n4 := SBlock.cm_nn a.f4
 have n5 := STc.cm_nn a.f5
 have n6 := SProof.cm_nn a.f6
 have n7 := SIncl.cm_nn a.f7
 simp only [SMsg.cm] at h1_
 refine T.sr [(2, (.one (.ptr 2 0))), (4, (pI 0))] [(2, (43, (c_23 a)))] ?_
 refine T.sg ?_
 refine TL.rx 3 [(6, (.agg [cI a.f1.f0, cI a.f1.f1, .row 903 [], cI a.f1.f3, .row 905 []])), (7, (pI k))] [] ?_
 have nn1 := SVote.cm_nn a.f1
 refine TL.c (Step.callM2 (xs := [.tmp 6, .tmp 7]) (ps := [(.agg [cI a.f1.f0, cI a.f1.f1, .row 903 [], cI a.f1.f3, .row 905 []]), (pI k)]) (js := [(903, (.ints .u8 (mkB a.f1.f2 k))), (905, (.ints .u8 (mkB a.f1.f4 (k + (a.f1.f2.length : Int)))))]) (g := .func 42) (ok_laws_markVote a.f1 k p_4 (by first | omega | (have := SVote.cm_le (x := a.f1) (by assumption); omega))) rfl rfl (lt_ok rfl) rfl p_6 rfl rfl (.d (.d (.row (T := (Ts 3)) (d := (.ints .u8 a.f1.f2)) (e' := (.ints .u8 (mkB a.f1.f2 k))) (d' := (.ints .u8 (mkB a.f1.f2 k))) rfl rfl rfl rfl rfl p_45 rfl rfl (.d (.row (T := (Ts 5)) (d := (.ints .u8 a.f1.f4)) (e' := (.ints .u8 (mkB a.f1.f4 (k + (a.f1.f2.length : Int))))) (d' := (.ints .u8 (mkB a.f1.f4 (k + (a.f1.f2.length : Int))))) rfl rfl rfl rfl rfl p_45 rfl rfl (.d .nil)))))) rfl) ?_
 refine TL.rl [(1, (pI (k + a.f1.cm)))] [] ?_
 refine T.sg ?_
 refine TL.rx 3 [(10, (.agg [cI a.f2.f0, cI a.f2.f1, .row 908 [], .row 909 [], .row 910 []])), (11, (pI (k + a.f1.cm)))] [] ?_
 have nn2 := SQc.cm_nn a.f2
 refine TL.c (Step.callM2 (xs := [.tmp 10, .tmp 11]) (ps := [(.agg [cI a.f2.f0, cI a.f2.f1, .row 908 [], .row 909 [], .row 910 []]), (pI (k + a.f1.cm))]) (js := [(908, (.ints .u8 (mkB a.f2.f2 (k + a.f1.cm)))), (909, (.ints .u8 (mkB a.f2.f3 ((k + a.f1.cm) + (a.f2.f2.length : Int))))), (910, (.bss (mkBs a.f2.f4 (((k + a.f1.cm) + (a.f2.f2.length : Int)) + (a.f2.f3.length : Int)))))]) (g := .func 43) (ok_laws_markQc a.f2 (k + a.f1.cm) p_4 (by first | omega | (have := SQc.cm_le (x := a.f2) (by assumption); omega))) rfl rfl (lt_ok rfl) rfl p_6 rfl rfl (.d (.d (.row (T := (Ts 8)) (d := (.ints .u8 a.f2.f2)) (e' := (.ints .u8 (mkB a.f2.f2 (k + a.f1.cm)))) (d' := (.ints .u8 (mkB a.f2.f2 (k + a.f1.cm)))) rfl rfl rfl rfl rfl p_45 rfl rfl (.row (T := (Ts 9)) (d := (.ints .u8 a.f2.f3)) (e' := (.ints .u8 (mkB a.f2.f3 ((k + a.f1.cm) + (a.f2.f2.length : Int))))) (d' := (.ints .u8 (mkB a.f2.f3 ((k + a.f1.cm) + (a.f2.f2.length : Int))))) rfl rfl rfl rfl rfl p_45 rfl rfl (.row (T := (Ts 10)) (d := (.bss a.f2.f4)) (e' := (.bss (mkBs a.f2.f4 (((k + a.f1.cm) + (a.f2.f2.length : Int)) + (a.f2.f3.length : Int))))) (d' := (.bss (mkBs a.f2.f4 (((k + a.f1.cm) + (a.f2.f2.length : Int)) + (a.f2.f3.length : Int))))) rfl rfl rfl rfl rfl p_45 rfl rfl (.d .nil)))))) rfl) ?_
 refine TL.rl [(1, (pI ((k + a.f1.cm) + a.f2.cm)))] [] ?_
 refine T.sg ?_
 refine TL.rx 3 [(14, (.agg (c_74 a))), (15, (pI ((k + a.f1.cm) + a.f2.cm)))] [] ?_
 have nn3 := SHead.cm_nn a.f3
 refine TL.c (Step.callM2 (xs := [.tmp 14, .tmp 15]) (ps := [(.agg (c_74 a)), (pI ((k + a.f1.cm) + a.f2.cm))]) (js := [(914, (.ints .u8 (mkB a.f3.f3 ((k + a.f1.cm) + a.f2.cm)))), (915, (.ints .u8 (mkB a.f3.f4 (((k + a.f1.cm) + a.f2.cm) + (a.f3.f3.length : Int))))), (918, (.ints .u8 (mkB a.f3.f5.f2 ((((k + a.f1.cm) + a.f2.cm) + (a.f3.f3.length : Int)) + (a.f3.f4.length : Int))))), (919, (.ints .u8 (mkB a.f3.f5.f3 (((((k + a.f1.cm) + a.f2.cm) + (a.f3.f3.length : Int)) + (a.f3.f4.length : Int)) + (a.f3.f5.f2.length : Int))))), (920, (.bss (mkBs a.f3.f5.f4 ((((((k + a.f1.cm) + a.f2.cm) + (a.f3.f3.length : Int)) + (a.f3.f4.length : Int)) + (a.f3.f5.f2.length : Int)) + (a.f3.f5.f3.length : Int)))))]) (g := .func 44) (ok_laws_markHead a.f3 ((k + a.f1.cm) + a.f2.cm) p_4 (by first | omega | (have := SHead.cm_le (x := a.f3) (by assumption); omega))) rfl rfl (lt_ok rfl) rfl p_6 rfl rfl (.d (.d (.d (.row (T := (Ts 14)) (d := (.ints .u8 a.f3.f3)) (e' := (.ints .u8 (mkB a.f3.f3 ((k + a.f1.cm) + a.f2.cm)))) (d' := (.ints .u8 (mkB a.f3.f3 ((k + a.f1.cm) + a.f2.cm)))) rfl rfl rfl rfl rfl p_45 rfl rfl (.row (T := (Ts 15)) (d := (.ints .u8 a.f3.f4)) (e' := (.ints .u8 (mkB a.f3.f4 (((k + a.f1.cm) + a.f2.cm) + (a.f3.f3.length : Int))))) (d' := (.ints .u8 (mkB a.f3.f4 (((k + a.f1.cm) + a.f2.cm) + (a.f3.f3.length : Int))))) rfl rfl rfl rfl rfl p_45 rfl rfl (.d (.d (.row (T := (Ts 18)) (d := (.ints .u8 a.f3.f5.f2)) (e' := (.ints .u8 (mkB a.f3.f5.f2 ((((k + a.f1.cm) + a.f2.cm) + (a.f3.f3.length : Int)) + (a.f3.f4.length : Int))))) (d' := (.ints .u8 (mkB a.f3.f5.f2 ((((k + a.f1.cm) + a.f2.cm) + (a.f3.f3.length : Int)) + (a.f3.f4.length : Int))))) rfl rfl rfl rfl rfl p_45 rfl rfl (.row (T := (Ts 19)) (d := (.ints .u8 a.f3.f5.f3)) (e' := (.ints .u8 (mkB a.f3.f5.f3 (((((k + a.f1.cm) + a.f2.cm) + (a.f3.f3.length : Int)) + (a.f3.f4.length : Int)) + (a.f3.f5.f2.length : Int))))) (d' := (.ints .u8 (mkB a.f3.f5.f3 (((((k + a.f1.cm) + a.f2.cm) + (a.f3.f3.length : Int)) + (a.f3.f4.length : Int)) + (a.f3.f5.f2.length : Int))))) rfl rfl rfl rfl rfl p_45 rfl rfl (.row (T := (Ts 20)) (d := (.bss a.f3.f5.f4)) (e' := (.bss (mkBs a.f3.f5.f4 ((((((k + a.f1.cm) + a.f2.cm) + (a.f3.f3.length : Int)) + (a.f3.f4.length : Int)) + (a.f3.f5.f2.length : Int)) + (a.f3.f5.f3.length : Int))))) (d' := (.bss (mkBs a.f3.f5.f4 ((((((k + a.f1.cm) + a.f2.cm) + (a.f3.f3.length : Int)) + (a.f3.f4.length : Int)) + (a.f3.f5.f2.length : Int)) + (a.f3.f5.f3.length : Int))))) rfl rfl rfl rfl rfl p_45 rfl rfl (.d .nil))))))))))) rfl) ?_
 refine TL.rl [(1, (pI (((k + a.f1.cm) + a.f2.cm) + a.f3.cm)))] [] ?_
 refine T.wk [(1, (pI (((k + a.f1.cm) + a.f2.cm) + a.f3.cm))), (2, (.one (.ptr 2 0))), (4, (pI 0))] [(903, ((Ts 3), (.ints .u8 (mkB a.f1.f2 k)))), (905, ((Ts 5), (.ints .u8 (mkB a.f1.f4 (k + (a.f1.f2.length : Int)))))), (908, ((Ts 8), (.ints .u8 (mkB a.f2.f2 (k + a.f1.cm))))), (909, ((Ts 9), (.ints .u8 (mkB a.f2.f3 ((k + a.f1.cm) + (a.f2.f2.length : Int)))))), (910, ((Ts 10), (.bss (mkBs a.f2.f4 (((k + a.f1.cm) + (a.f2.f2.length : Int)) + (a.f2.f3.length : Int)))))), (914, ((Ts 14), (.ints .u8 (mkB a.f3.f3 ((k + a.f1.cm) + a.f2.cm))))), (915, ((Ts 15), (.ints .u8 (mkB a.f3.f4 (((k + a.f1.cm) + a.f2.cm) + (a.f3.f3.length : Int)))))), (918, ((Ts 18), (.ints .u8 (mkB a.f3.f5.f2 ((((k + a.f1.cm) + a.f2.cm) + (a.f3.f3.length : Int)) + (a.f3.f4.length : Int)))))), (919, ((Ts 19), (.ints .u8 (mkB a.f3.f5.f3 (((((k + a.f1.cm) + a.f2.cm) + (a.f3.f3.length : Int)) + (a.f3.f4.length : Int)) + (a.f3.f5.f2.length : Int)))))), (920, ((Ts 20), (.bss (mkBs a.f3.f5.f4 ((((((k + a.f1.cm) + a.f2.cm) + (a.f3.f3.length : Int)) + (a.f3.f4.length : Int)) + (a.f3.f5.f2.length : Int)) + (a.f3.f5.f3.length : Int)))))), (924, ((Ts 24), (.ints .u8 a.f4.f0.f3))), (925, ((Ts 25), (.ints .u8 a.f4.f0.f4))), (928, ((Ts 28), (.ints .u8 a.f4.f0.f5.f2))), (929, ((Ts 29), (.ints .u8 a.f4.f0.f5.f3))), (930, ((Ts 30), (.bss a.f4.f0.f5.f4))), (931, ((Ts 31), (.bss a.f4.f1))), (933, ((Ts 33), (.sl 3 (a.f5.f1.map SEntry.cells)))), (934, ((Ts 34), (.sl 10 (a.f6.f0.map SHead.cells)))), (937, ((Ts 37), (.ints .u8 a.f6.f1.f2))), (938, ((Ts 38), (.ints .u8 a.f6.f1.f3))), (939, ((Ts 39), (.bss a.f6.f1.f4))), (943, ((Ts 43), (.ints .u8 a.f7.f3))), (944, ((Ts 44), (.bss a.f7.f4)))] [(2, (43, (c_23 a)))] ?_
 refine T.sg ?_
 refine TL.rx 3 [(18, (.agg (c_63 a))), (19, (pI (((k + a.f1.cm) + a.f2.cm) + a.f3.cm)))] [] ?_
 have nn4 := SBlock.cm_nn a.f4
 refine TL.c (Step.callM2 (xs := [.tmp 18, .tmp 19]) (ps := [(.agg (c_63 a)), (pI (((k + a.f1.cm) + a.f2.cm) + a.f3.cm))]) (js := [(924, (.ints .u8 (mkB a.f4.f0.f3 (((k + a.f1.cm) + a.f2.cm) + a.f3.cm)))), (925, (.ints .u8 (mkB a.f4.f0.f4 ((((k + a.f1.cm) + a.f2.cm) + a.f3.cm) + (a.f4.f0.f3.length : Int))))), (928, (.ints .u8 (mkB a.f4.f0.f5.f2 (((((k + a.f1.cm) + a.f2.cm) + a.f3.cm) + (a.f4.f0.f3.length : Int)) + (a.f4.f0.f4.length : Int))))), (929, (.ints .u8 (mkB a.f4.f0.f5.f3 ((((((k + a.f1.cm) + a.f2.cm) + a.f3.cm) + (a.f4.f0.f3.length : Int)) + (a.f4.f0.f4.length : Int)) + (a.f4.f0.f5.f2.length : Int))))), (930, (.bss (mkBs a.f4.f0.f5.f4 (((((((k + a.f1.cm) + a.f2.cm) + a.f3.cm) + (a.f4.f0.f3.length : Int)) + (a.f4.f0.f4.length : Int)) + (a.f4.f0.f5.f2.length : Int)) + (a.f4.f0.f5.f3.length : Int))))), (931, (.bss (mkBs a.f4.f1 ((((k + a.f1.cm) + a.f2.cm) + a.f3.cm) + a.f4.f0.cm))))]) (g := .func 45) (ok_laws_markBlock a.f4 (((k + a.f1.cm) + a.f2.cm) + a.f3.cm) p_4 (by first | omega | (have := SBlock.cm_le (x := a.f4) (by assumption); omega))) rfl rfl (lt_ok rfl) rfl p_6 rfl rfl (.d (.d (.d (.row (T := (Ts 24)) (d := (.ints .u8 a.f4.f0.f3)) (e' := (.ints .u8 (mkB a.f4.f0.f3 (((k + a.f1.cm) + a.f2.cm) + a.f3.cm)))) (d' := (.ints .u8 (mkB a.f4.f0.f3 (((k + a.f1.cm) + a.f2.cm) + a.f3.cm)))) rfl rfl rfl rfl rfl p_45 rfl rfl (.row (T := (Ts 25)) (d := (.ints .u8 a.f4.f0.f4)) (e' := (.ints .u8 (mkB a.f4.f0.f4 ((((k + a.f1.cm) + a.f2.cm) + a.f3.cm) + (a.f4.f0.f3.length : Int))))) (d' := (.ints .u8 (mkB a.f4.f0.f4 ((((k + a.f1.cm) + a.f2.cm) + a.f3.cm) + (a.f4.f0.f3.length : Int))))) rfl rfl rfl rfl rfl p_45 rfl rfl (.d (.d (.row (T := (Ts 28)) (d := (.ints .u8 a.f4.f0.f5.f2)) (e' := (.ints .u8 (mkB a.f4.f0.f5.f2 (((((k + a.f1.cm) + a.f2.cm) + a.f3.cm) + (a.f4.f0.f3.length : Int)) + (a.f4.f0.f4.length : Int))))) (d' := (.ints .u8 (mkB a.f4.f0.f5.f2 (((((k + a.f1.cm) + a.f2.cm) + a.f3.cm) + (a.f4.f0.f3.length : Int)) + (a.f4.f0.f4.length : Int))))) rfl rfl rfl rfl rfl p_45 rfl rfl (.row (T := (Ts 29)) (d := (.ints .u8 a.f4.f0.f5.f3)) (e' := (.ints .u8 (mkB a.f4.f0.f5.f3 ((((((k + a.f1.cm) + a.f2.cm) + a.f3.cm) + (a.f4.f0.f3.length : Int)) + (a.f4.f0.f4.length : Int)) + (a.f4.f0.f5.f2.length : Int))))) (d' := (.ints .u8 (mkB a.f4.f0.f5.f3 ((((((k + a.f1.cm) + a.f2.cm) + a.f3.cm) + (a.f4.f0.f3.length : Int)) + (a.f4.f0.f4.length : Int)) + (a.f4.f0.f5.f2.length : Int))))) rfl rfl rfl rfl rfl p_45 rfl rfl (.row (T := (Ts 30)) (d := (.bss a.f4.f0.f5.f4)) (e' := (.bss (mkBs a.f4.f0.f5.f4 (((((((k + a.f1.cm) + a.f2.cm) + a.f3.cm) + (a.f4.f0.f3.length : Int)) + (a.f4.f0.f4.length : Int)) + (a.f4.f0.f5.f2.length : Int)) + (a.f4.f0.f5.f3.length : Int))))) (d' := (.bss (mkBs a.f4.f0.f5.f4 (((((((k + a.f1.cm) + a.f2.cm) + a.f3.cm) + (a.f4.f0.f3.length : Int)) + (a.f4.f0.f4.length : Int)) + (a.f4.f0.f5.f2.length : Int)) + (a.f4.f0.f5.f3.length : Int))))) rfl rfl rfl rfl rfl p_45 rfl rfl (.row (T := (Ts 31)) (d := (.bss a.f4.f1)) (e' := (.bss (mkBs a.f4.f1 ((((k + a.f1.cm) + a.f2.cm) + a.f3.cm) + a.f4.f0.cm)))) (d' := (.bss (mkBs a.f4.f1 ((((k + a.f1.cm) + a.f2.cm) + a.f3.cm) + a.f4.f0.cm)))) rfl rfl rfl rfl rfl p_45 rfl rfl (.d .nil)))))))))))) rfl) ?_
 refine TL.rl [(1, (pI ((((k + a.f1.cm) + a.f2.cm) + a.f3.cm) + a.f4.cm)))] [] ?_
 refine T.sg ?_
 refine TL.rx 3 [(22, (.agg [cI a.f5.f0, .row 933 []])), (23, (pI ((((k + a.f1.cm) + a.f2.cm) + a.f3.cm) + a.f4.cm)))] [] ?_
 have nn5 := STc.cm_nn a.f5
 refine TL.c (Step.callM2 (xs := [.tmp 22, .tmp 23]) (ps := [(.agg [cI a.f5.f0, .row 933 []]), (pI ((((k + a.f1.cm) + a.f2.cm) + a.f3.cm) + a.f4.cm))]) (js := [(933, (.sl 3 ((mkL SEntry.ce SEntry.me a.f5.f1 ((((k + a.f1.cm) + a.f2.cm) + a.f3.cm) + a.f4.cm)).map SEntry.cells)))]) (g := .func 46) (ok_laws_markTc a.f5 ((((k + a.f1.cm) + a.f2.cm) + a.f3.cm) + a.f4.cm) p_4 (by first | omega | (have := STc.cm_le (x := a.f5) (by assumption); omega))) rfl rfl (lt_ok rfl) rfl p_6 rfl rfl (.d (.row (T := (Ts 33)) (d := (.sl 3 (a.f5.f1.map SEntry.cells))) (e' := (.sl 3 ((mkL SEntry.ce SEntry.me a.f5.f1 ((((k + a.f1.cm) + a.f2.cm) + a.f3.cm) + a.f4.cm)).map SEntry.cells))) (d' := (.sl 3 ((mkL SEntry.ce SEntry.me a.f5.f1 ((((k + a.f1.cm) + a.f2.cm) + a.f3.cm) + a.f4.cm)).map SEntry.cells))) rfl rfl rfl rfl rfl p_45 rfl rfl (.d .nil))) rfl) ?_
 refine TL.rl [(1, (pI (((((k + a.f1.cm) + a.f2.cm) + a.f3.cm) + a.f4.cm) + a.f5.cm)))] [] ?_
 refine T.sg ?_
 refine TL.rx 3 [(26, (.agg [.row 934 [], cI a.f6.f1.f0, cI a.f6.f1.f1, .row 937 [], .row 938 [], .row 939 []])), (27, (pI (((((k + a.f1.cm) + a.f2.cm) + a.f3.cm) + a.f4.cm) + a.f5.cm)))] [] ?_
 have nn6 := SProof.cm_nn a.f6
 refine TL.c (Step.callM2 (xs := [.tmp 26, .tmp 27]) (ps := [(.agg [.row 934 [], cI a.f6.f1.f0, cI a.f6.f1.f1, .row 937 [], .row 938 [], .row 939 []]), (pI (((((k + a.f1.cm) + a.f2.cm) + a.f3.cm) + a.f4.cm) + a.f5.cm))]) (js := [(934, (.sl 10 ((mkL SHead.ce SHead.me a.f6.f0 (((((k + a.f1.cm) + a.f2.cm) + a.f3.cm) + a.f4.cm) + a.f5.cm)).map SHead.cells))), (937, (.ints .u8 (mkB a.f6.f1.f2 ((((((k + a.f1.cm) + a.f2.cm) + a.f3.cm) + a.f4.cm) + a.f5.cm) + cntL SHead.ce a.f6.f0)))), (938, (.ints .u8 (mkB a.f6.f1.f3 (((((((k + a.f1.cm) + a.f2.cm) + a.f3.cm) + a.f4.cm) + a.f5.cm) + cntL SHead.ce a.f6.f0) + (a.f6.f1.f2.length : Int))))), (939, (.bss (mkBs a.f6.f1.f4 ((((((((k + a.f1.cm) + a.f2.cm) + a.f3.cm) + a.f4.cm) + a.f5.cm) + cntL SHead.ce a.f6.f0) + (a.f6.f1.f2.length : Int)) + (a.f6.f1.f3.length : Int)))))]) (g := .func 47) (ok_laws_markProof a.f6 (((((k + a.f1.cm) + a.f2.cm) + a.f3.cm) + a.f4.cm) + a.f5.cm) p_4 (by first | omega | (have := SProof.cm_le (x := a.f6) (by assumption); omega))) rfl rfl (lt_ok rfl) rfl p_6 rfl rfl (.row (T := (Ts 34)) (d := (.sl 10 (a.f6.f0.map SHead.cells))) (e' := (.sl 10 ((mkL SHead.ce SHead.me a.f6.f0 (((((k + a.f1.cm) + a.f2.cm) + a.f3.cm) + a.f4.cm) + a.f5.cm)).map SHead.cells))) (d' := (.sl 10 ((mkL SHead.ce SHead.me a.f6.f0 (((((k + a.f1.cm) + a.f2.cm) + a.f3.cm) + a.f4.cm) + a.f5.cm)).map SHead.cells))) rfl rfl rfl rfl rfl p_45 rfl rfl (.d (.d (.row (T := (Ts 37)) (d := (.ints .u8 a.f6.f1.f2)) (e' := (.ints .u8 (mkB a.f6.f1.f2 ((((((k + a.f1.cm) + a.f2.cm) + a.f3.cm) + a.f4.cm) + a.f5.cm) + cntL SHead.ce a.f6.f0)))) (d' := (.ints .u8 (mkB a.f6.f1.f2 ((((((k + a.f1.cm) + a.f2.cm) + a.f3.cm) + a.f4.cm) + a.f5.cm) + cntL SHead.ce a.f6.f0)))) rfl rfl rfl rfl rfl p_45 rfl rfl (.row (T := (Ts 38)) (d := (.ints .u8 a.f6.f1.f3)) (e' := (.ints .u8 (mkB a.f6.f1.f3 (((((((k + a.f1.cm) + a.f2.cm) + a.f3.cm) + a.f4.cm) + a.f5.cm) + cntL SHead.ce a.f6.f0) + (a.f6.f1.f2.length : Int))))) (d' := (.ints .u8 (mkB a.f6.f1.f3 (((((((k + a.f1.cm) + a.f2.cm) + a.f3.cm) + a.f4.cm) + a.f5.cm) + cntL SHead.ce a.f6.f0) + (a.f6.f1.f2.length : Int))))) rfl rfl rfl rfl rfl p_45 rfl rfl (.row (T := (Ts 39)) (d := (.bss a.f6.f1.f4)) (e' := (.bss (mkBs a.f6.f1.f4 ((((((((k + a.f1.cm) + a.f2.cm) + a.f3.cm) + a.f4.cm) + a.f5.cm) + cntL SHead.ce a.f6.f0) + (a.f6.f1.f2.length : Int)) + (a.f6.f1.f3.length : Int))))) (d' := (.bss (mkBs a.f6.f1.f4 ((((((((k + a.f1.cm) + a.f2.cm) + a.f3.cm) + a.f4.cm) + a.f5.cm) + cntL SHead.ce a.f6.f0) + (a.f6.f1.f2.length : Int)) + (a.f6.f1.f3.length : Int))))) rfl rfl rfl rfl rfl p_45 rfl rfl (.d .nil))))))) rfl) ?_
 refine TL.rl [(1, (pI ((((((k + a.f1.cm) + a.f2.cm) + a.f3.cm) + a.f4.cm) + a.f5.cm) + a.f6.cm)))] [] ?_
 refine T.sg ?_
 refine TL.rx 3 [(30, (.agg [cI a.f7.f0, cI a.f7.f1, cI a.f7.f2, .row 943 [], .row 944 []])), (31, (pI ((((((k + a.f1.cm) + a.f2.cm) + a.f3.cm) + a.f4.cm) + a.f5.cm) + a.f6.cm)))] [] ?_
 have nn7 := SIncl.cm_nn a.f7
 refine TL.c (Step.callM2 (xs := [.tmp 30, .tmp 31]) (ps := [(.agg [cI a.f7.f0, cI a.f7.f1, cI a.f7.f2, .row 943 [], .row 944 []]), (pI ((((((k + a.f1.cm) + a.f2.cm) + a.f3.cm) + a.f4.cm) + a.f5.cm) + a.f6.cm))]) (js := [(943, (.ints .u8 (mkB a.f7.f3 ((((((k + a.f1.cm) + a.f2.cm) + a.f3.cm) + a.f4.cm) + a.f5.cm) + a.f6.cm)))), (944, (.bss (mkBs a.f7.f4 (((((((k + a.f1.cm) + a.f2.cm) + a.f3.cm) + a.f4.cm) + a.f5.cm) + a.f6.cm) + (a.f7.f3.length : Int)))))]) (g := .func 48) (ok_laws_markIncl a.f7 ((((((k + a.f1.cm) + a.f2.cm) + a.f3.cm) + a.f4.cm) + a.f5.cm) + a.f6.cm) p_4 (by first | omega | (have := SIncl.cm_le (x := a.f7) (by assumption); omega))) rfl rfl (lt_ok rfl) rfl p_6 rfl rfl (.d (.d (.d (.row (T := (Ts 43)) (d := (.ints .u8 a.f7.f3)) (e' := (.ints .u8 (mkB a.f7.f3 ((((((k + a.f1.cm) + a.f2.cm) + a.f3.cm) + a.f4.cm) + a.f5.cm) + a.f6.cm)))) (d' := (.ints .u8 (mkB a.f7.f3 ((((((k + a.f1.cm) + a.f2.cm) + a.f3.cm) + a.f4.cm) + a.f5.cm) + a.f6.cm)))) rfl rfl rfl rfl rfl p_45 rfl rfl (.row (T := (Ts 44)) (d := (.bss a.f7.f4)) (e' := (.bss (mkBs a.f7.f4 (((((((k + a.f1.cm) + a.f2.cm) + a.f3.cm) + a.f4.cm) + a.f5.cm) + a.f6.cm) + (a.f7.f3.length : Int))))) (d' := (.bss (mkBs a.f7.f4 (((((((k + a.f1.cm) + a.f2.cm) + a.f3.cm) + a.f4.cm) + a.f5.cm) + a.f6.cm) + (a.f7.f3.length : Int))))) rfl rfl rfl rfl rfl p_45 rfl rfl (.d .nil)))))) rfl) ?_
 refine TL.rl [(1, (pI (((((((k + a.f1.cm) + a.f2.cm) + a.f3.cm) + a.f4.cm) + a.f5.cm) + a.f6.cm) + a.f7.cm)))] [] ?_
 refine T.sr [(4, (pI (((((((k + a.f1.cm) + a.f2.cm) + a.f3.cm) + a.f4.cm) + a.f5.cm) + a.f6.cm) + a.f7.cm)))] [] ?_
 refine T.ret ?_
 refine ⟨⟨⟨_, (.cons rfl .nil), rfl, _, (.r ?_ .nil)⟩, rfl⟩, (.rd (.rd (.rd (.mk' p_122 (.rd (.mk' p_122 (.rd (.rd (.mk' p_122 (.mk' p_122 (.mk' p_122 (.rd (.rd (.rd (.mk' p_122 (.mk' p_122 (.rd (.rd (.mk' p_122 (.mk' p_122 (.mk' p_122 (.rd (.rd (.rd (.mk' p_122 (.mk' p_122 (.rd (.rd (.mk' p_122 (.mk' p_122 (.mk' p_122 (.mk' p_122 (.rd (.mk' p_122 (.mk' p_122 (.rd (.rd (.mk' p_122 (.mk' p_122 (.mk' p_122 (.rd (.rd (.rd (.mk' p_122 (.mk' p_122 (.rd .nil'))))))))))))))))))))))))))))))))))))))))))))))⟩ <;> (first | rfl | (congr 1; simp only [SMsg.cm]; omega))
theorem ok_laws_heldByteS (a : List Int) (b : List Int) (k : Int) (h0_ : 0 ≤ k) (h1_ : k + (a.length : Int) ≤ 4611686018427387904) (h2_ : b = mkB a k) : RO Tryz.prog 92 [.one (.ints .u8 b), .one (.int .i64 k)] [(false, [.rd (.int .i64 (k + (a.length : Int)))])] := by
 refine RO.intro Tryz.func92 rfl 22 rfl (le_ok rfl) fun w Z => ?_
 refine T.bnd 0 0 rfl rfl fun hb_0_0 => ?_
 simp only [D.size, List.length_map] at hb_0_0
 have hl_ : b.length = a.length := by rw [h2_, mkL_length]
 have hg_ : ∀ i, i < a.length → b.getD i 0 = (k + (i : Int)) % 256 := fun i hi => by rw [h2_, mkL_getD _ _ _ _ hi]; simp only [cntL_one_take a i p_4]
 refine T.sr [(4, (pI 0))] [] ?_
 refine T.seq ?_
 refine T.sr [(5, (pI 0))] [] ?_
 refine T.block ?_
 refine T.loop (ι := Nat) (fun xx_ => { tm := [(0, (pS b)), (5, (pI (xx_ : Int))), (1, (pI (k + (xx_ : Int))))], rows := [], boxes := [] }) (fun xx_ => xx_ ≤ a.length) (fun xx_ => a.length - xx_) 0 ?_ ?_ ?_
 · refine Env.le_mk ⟨rfl, ?_, ?_, trivial⟩ trivial trivial <;> exact p_63
 · exact Nat.zero_le _
 intro i hx
 try dsimp only at hx ⊢
 refine T.seq (T.sg ?_)
 refine TL.rx 2 [(6, (pI (i : Int))), (7, (pS b))] [] ?_
 refine TL.c (Step.ln 5 1 (.ints .u8 b)) ?_
 refine TL.rl [(9, (pB (decide ((i : Int) < (b.length : Int)))))] [] ?_
 refine T.ci rfl (fun h1 => ?_) (fun h1 => ?_)
 ·refine T.skip (T.seq (T.block (T.seq (T.sg ?_))))
  refine TL.rx 2 [(12, (pS b)), (13, (pI (i : Int)))] [] ?_
  refine TL.c (Step.index (e := 5) (z := 1) (i := (i : Int)) rfl rfl (lt_ok rfl) p_6 rfl rfl rfl (lt_ok rfl) rfl p_17 p_39) ?_
  refine TL.c (Step.load (e := (.int .u8 (b.getD i 0))) rfl rfl (lt_ok rfl) p_6 rfl rfl) ?_
  refine TL.rx 1 [(16, (pI (k + (i : Int))))] [] ?_
  refine TL.c (Step.conv (c := ((k + (i : Int)) % 256)) rfl rfl (lt_ok rfl) p_6 p_6 rfl (wrap_byte _)) ?_
  refine TL.rl [(18, (pB (decide ((b.getD i 0) ≠ ((k + (i : Int)) % 256)))))] [] ?_
  refine T.ci rfl (fun h2 => ?_) (fun h2 => ?_)
  ·refine T.sr [(4, (pI (-1)))] [] ?_
   refine T.ret ?_
   exact p_176
  refine T.skip (T.region ?_)
  refine TL.rx 1 [(19, (pI (k + (i : Int))))] [] ?_
  refine TL.ad ((k + (i : Int)) + 1) ?_
  refine TL.rl [(1, (pI ((k + (i : Int)) + 1)))] [] ?_
  refine T.region ?_
  refine TL.rx 1 [(10, (pI (i : Int)))] [] ?_
  refine TL.ad ((i : Int) + 1) ?_
  refine TL.rl [(5, (pI ((i : Int) + 1)))] [] ?_
  refine ⟨i + 1, by omega, by first | omega | (dsimp only; omega), Env.le_mk ⟨rfl, ?_, ?_, trivial⟩ trivial trivial⟩ <;> exact p_63
 refine T.exit ?_
 refine T.sr [(4, (pI (k + (i : Int))))] [] ?_
 refine T.ret ?_
 exact p_176
theorem ok_laws_heldVote (a : SVote) (b : SVote) (k : Int) (h0_ : 0 ≤ k) (h1_ : k + a.cm ≤ 4611686018427387904) (h2_ : SVote.hm a b k) : RO Tryz.prog 49 [.agg b.cells, .one (.int .i64 k)] [(false, [.rd (.int .i64 (k + a.cm))])] := by
 refine RO.intro Tryz.func49 rfl 18 rfl (le_ok rfl) fun w Z => ?_
 obtain ⟨p2, p4⟩ := h2_
 simp only [SVote.cm] at h1_
 refine T.sr [(2, (.one (.ptr 2 0))), (4, (pI 0))] [(2, (26, [cI b.f0, cI b.f1, cS b.f2, cI b.f3, cS b.f4]))] ?_
 refine T.sg ?_
 refine TL.rx 3 [(6, (pS b.f2)), (7, (pI k))] [] ?_
 refine TL.c (Step.cz (ok_laws_heldByteS a.f2 b.f2 k p_4 p_57 p_37)) ?_
 refine TL.rl [(1, (pI (k + (a.f2.length : Int))))] [] ?_
 refine T.seq (T.sg ?_)
 refine TL.rx 2 [(10, (pB (decide ((k + (a.f2.length : Int)) < 0))))] [] ?_
 refine TL.known 10 (c := false) (decide_eq_false p_4) rfl ?_
 refine TL.nil (T.cf (T.skip (T.sg ?_)))
 refine TL.rx 3 [(12, (pS b.f4)), (13, (pI (k + (a.f2.length : Int))))] [] ?_
 refine TL.c (Step.cz (ok_laws_heldByteS a.f4 b.f4 (k + (a.f2.length : Int)) p_4 p_57 p_37)) ?_
 refine TL.rl [(1, (pI ((k + (a.f2.length : Int)) + (a.f4.length : Int))))] [] ?_
 refine T.seq (T.sg ?_)
 refine TL.rx 2 [(16, (pB (decide (((k + (a.f2.length : Int)) + (a.f4.length : Int)) < 0))))] [] ?_
 refine TL.known 16 (c := false) (decide_eq_false p_4) rfl ?_
 refine TL.nil (T.cf (T.skip ?_))
 refine T.sr [(4, (pI ((k + (a.f2.length : Int)) + (a.f4.length : Int))))] [] ?_
 refine T.ret ?_
 refine ⟨_, (.cons rfl .nil), rfl, _, (.r ?_ .nil)⟩ <;> (first | rfl | (congr 1; simp only [SVote.cm]; omega))
theorem ok_laws_heldByteSS (a : List (List Int)) (b : List (List Int)) (k : Int) (h0_ : 0 ≤ k) (h1_ : k + cntL (fun x : List Int => (x.length : Int)) a ≤ 4611686018427387904) (h2_ : b = mkBs a k) : RO Tryz.prog 93 [.one (.bss b), .one (.int .i64 k)] [(false, [.rd (.int .i64 (k + cntL (fun x : List Int => (x.length : Int)) a))])] := by
 refine RO.intro Tryz.func93 rfl 21 rfl (le_ok rfl) fun w Z => ?_
 refine T.bnd 0 0 rfl rfl fun hb_0_0 => ?_
 simp only [D.size, List.length_map] at hb_0_0
 have hl_ : b.length = a.length := by rw [h2_, mkL_length]
 have hg_ : ∀ i, i < a.length → b.getD i [] = mkB (a.getD i []) (k + cntL (fun x : List Int => (x.length : Int)) (a.take i)) := fun i hi => by rw [h2_, mkL_getD _ _ _ _ hi]
 refine T.sr [(4, (pI 0))] [] ?_
 refine T.seq ?_
 refine T.sr [(5, (pI 0))] [] ?_
 refine T.block ?_
 refine T.loop (ι := Nat) (fun xx_ => { tm := [(0, (.one (.d (.bss b)))), (5, (pI (xx_ : Int))), (1, (pI (k + cntL (fun x : List Int => (x.length : Int)) (a.take xx_))))], rows := [], boxes := [] }) (fun xx_ => xx_ ≤ a.length) (fun xx_ => a.length - xx_) 0 ?_ ?_ ?_
 · refine Env.le_mk ⟨rfl, ?_, ?_, trivial⟩ trivial trivial <;> exact p_63
 · exact Nat.zero_le _
 intro i hx
 try dsimp only at hx ⊢
 refine T.seq (T.sg ?_)
 refine TL.rx 2 [(6, (pI (i : Int))), (7, (.one (.d (.bss b))))] [] ?_
 refine TL.c (Step.ln 24 1 (.bss b)) ?_
 refine TL.rl [(9, (pB (decide ((i : Int) < (b.length : Int)))))] [] ?_
 refine T.ci rfl (fun h1 => ?_) (fun h1 => ?_)
 ·have hc1 := cntL_take_le (cnt := (fun x : List Int => (x.length : Int))) (fun x => by omega) a (i + 1)
  have hc2 := cntL_take_succ (cnt := (fun x : List Int => (x.length : Int))) (i := i) [] (show i < a.length by omega)
  have hc3 := cntL_nonneg (cnt := (fun x : List Int => (x.length : Int))) (fun x => by omega) (a.take i)
  have he_ := hg_ i p_4
  try dsimp only at hc2
  refine T.skip (T.seq (T.block (T.sg ?_)))
  refine TL.rx 2 [(12, (.one (.d (.bss b)))), (13, (pI (i : Int)))] [] ?_
  refine TL.c (Step.index (e := 24) (z := 1) (i := (i : Int)) rfl rfl (lt_ok rfl) p_6 rfl rfl rfl (lt_ok rfl) rfl p_17 p_39) ?_
  refine TL.c (Step.load (e := (.ints .u8 (b.getD i []))) rfl rfl (lt_ok rfl) p_6 rfl rfl) ?_
  refine TL.rx 1 [(16, (pI (k + cntL (fun x : List Int => (x.length : Int)) (a.take i))))] [] ?_
  refine TL.c (Step.cz (ok_laws_heldByteS (a.getD i []) (b.getD i []) (k + cntL (fun x : List Int => (x.length : Int)) (a.take i)) p_4 p_57 p_37)) ?_
  refine TL.rl [(1, (pI ((k + cntL (fun x : List Int => (x.length : Int)) (a.take i)) + ((a.getD i []).length : Int))))] [] ?_
  refine T.sg ?_
  refine TL.rx 2 [(19, (pB (decide (((k + cntL (fun x : List Int => (x.length : Int)) (a.take i)) + ((a.getD i []).length : Int)) < 0))))] [] ?_
  refine TL.known 19 (c := false) (decide_eq_false p_4) rfl ?_
  refine TL.nil (T.cf (T.skip (T.region ?_)))
  refine TL.rx 1 [(10, (pI (i : Int)))] [] ?_
  refine TL.ad ((i : Int) + 1) ?_
  refine TL.rl [(5, (pI ((i : Int) + 1)))] [] ?_
  refine ⟨i + 1, by omega, by first | omega | (dsimp only; omega), Env.le_mk ⟨rfl, ?_, ?_, trivial⟩ trivial trivial⟩ <;> exact p_63
 refine T.exit ?_
 refine T.sr [(4, (pI (k + cntL (fun x : List Int => (x.length : Int)) (a.take i))))] [] ?_
 refine T.ret ?_
 exact p_137
theorem ok_laws_heldQc (a : SQc) (b : SQc) (k : Int) (h0_ : 0 ≤ k) (h1_ : k + a.cm ≤ 4611686018427387904) (h2_ : SQc.hm a b k) : RO Tryz.prog 50 [.agg b.cells, .one (.int .i64 k)] [(false, [.rd (.int .i64 (k + a.cm))])] := by
 refine RO.intro Tryz.func50 rfl 24 rfl (le_ok rfl) fun w Z => ?_
 obtain ⟨p2, p3, p4⟩ := h2_
 have n4 := cntBs_nonneg a.f4
 simp only [SQc.cm] at h1_
 refine T.sr [(2, (.one (.ptr 2 0))), (4, (pI 0))] [(2, (29, [cI b.f0, cI b.f1, cS b.f2, cS b.f3, .d (.bss b.f4)]))] ?_
 refine T.sg ?_
 refine TL.rx 3 [(6, (pS b.f2)), (7, (pI k))] [] ?_
 refine TL.c (Step.cz (ok_laws_heldByteS a.f2 b.f2 k p_4 p_57 p_37)) ?_
 refine TL.rl [(1, (pI (k + (a.f2.length : Int))))] [] ?_
 refine T.seq (T.sg ?_)
 refine TL.rx 2 [(10, (pB (decide ((k + (a.f2.length : Int)) < 0))))] [] ?_
 refine TL.known 10 (c := false) (decide_eq_false p_4) rfl ?_
 refine TL.nil (T.cf (T.skip (T.sg ?_)))
 refine TL.rx 3 [(12, (pS b.f3)), (13, (pI (k + (a.f2.length : Int))))] [] ?_
 refine TL.c (Step.cz (ok_laws_heldByteS a.f3 b.f3 (k + (a.f2.length : Int)) p_4 p_57 p_37)) ?_
 refine TL.rl [(1, (pI ((k + (a.f2.length : Int)) + (a.f3.length : Int))))] [] ?_
 refine T.seq (T.sg ?_)
 refine TL.rx 2 [(16, (pB (decide (((k + (a.f2.length : Int)) + (a.f3.length : Int)) < 0))))] [] ?_
 refine TL.known 16 (c := false) (decide_eq_false p_4) rfl ?_
 refine TL.nil (T.cf (T.skip (T.sg ?_)))
 refine TL.rx 3 [(18, (.one (.d (.bss b.f4)))), (19, (pI ((k + (a.f2.length : Int)) + (a.f3.length : Int))))] [] ?_
 have nn1 := cntBs_nonneg a.f4
 refine TL.c (Step.cz (ok_laws_heldByteSS a.f4 b.f4 ((k + (a.f2.length : Int)) + (a.f3.length : Int)) p_4 p_115 p_37)) ?_
 refine TL.rl [(1, (pI (((k + (a.f2.length : Int)) + (a.f3.length : Int)) + cntL (fun x : List Int => (x.length : Int)) a.f4)))] [] ?_
 refine T.seq (T.sg ?_)
 refine TL.rx 2 [(22, (pB (decide ((((k + (a.f2.length : Int)) + (a.f3.length : Int)) + cntL (fun x : List Int => (x.length : Int)) a.f4) < 0))))] [] ?_
 refine TL.known 22 (c := false) (decide_eq_false p_4) rfl ?_
 refine TL.nil (T.cf (T.skip ?_))
 refine T.sr [(4, (pI (((k + (a.f2.length : Int)) + (a.f3.length : Int)) + cntL (fun x : List Int => (x.length : Int)) a.f4)))] [] ?_
 refine T.ret ?_
 refine ⟨_, (.cons rfl .nil), rfl, _, (.r ?_ .nil)⟩ <;> (first | rfl | (congr 1; simp only [SQc.cm]; omega))
theorem ok_laws_heldHead (a : SHead) (b : SHead) (k : Int) (h0_ : 0 ≤ k) (h1_ : k + a.cm ≤ 4611686018427387904) (h2_ : SHead.hm a b k) : RO Tryz.prog 51 [.agg b.cells, .one (.int .i64 k)] [(false, [.rd (.int .i64 (k + a.cm))])] := by
 refine RO.intro Tryz.func51 rfl 24 rfl (le_ok rfl) fun w Z => ?_
 obtain ⟨p3, p4, p5⟩ := h2_
 have n5 := SQc.cm_nn a.f5
 simp only [SHead.cm] at h1_
 refine T.sr [(2, (.one (.ptr 2 0))), (4, (pI 0))] [(2, (31, [cI b.f0, cI b.f1, cI b.f2, cS b.f3, cS b.f4, cI b.f5.f0, cI b.f5.f1, cS b.f5.f2, cS b.f5.f3, .d (.bss b.f5.f4)]))] ?_
 refine T.sg ?_
 refine TL.rx 3 [(6, (pS b.f3)), (7, (pI k))] [] ?_
 refine TL.c (Step.cz (ok_laws_heldByteS a.f3 b.f3 k p_4 p_57 p_37)) ?_
 refine TL.rl [(1, (pI (k + (a.f3.length : Int))))] [] ?_
 refine T.seq (T.sg ?_)
 refine TL.rx 2 [(10, (pB (decide ((k + (a.f3.length : Int)) < 0))))] [] ?_
 refine TL.known 10 (c := false) (decide_eq_false p_4) rfl ?_
 refine TL.nil (T.cf (T.skip (T.sg ?_)))
 refine TL.rx 3 [(12, (pS b.f4)), (13, (pI (k + (a.f3.length : Int))))] [] ?_
 refine TL.c (Step.cz (ok_laws_heldByteS a.f4 b.f4 (k + (a.f3.length : Int)) p_4 p_57 p_37)) ?_
 refine TL.rl [(1, (pI ((k + (a.f3.length : Int)) + (a.f4.length : Int))))] [] ?_
 refine T.seq (T.sg ?_)
 refine TL.rx 2 [(16, (pB (decide (((k + (a.f3.length : Int)) + (a.f4.length : Int)) < 0))))] [] ?_
 refine TL.known 16 (c := false) (decide_eq_false p_4) rfl ?_
 refine TL.nil (T.cf (T.skip (T.sg ?_)))
 refine TL.rx 3 [(18, (.agg [cI b.f5.f0, cI b.f5.f1, cS b.f5.f2, cS b.f5.f3, .d (.bss b.f5.f4)])), (19, (pI ((k + (a.f3.length : Int)) + (a.f4.length : Int))))] [] ?_
 have nn1 := SQc.cm_nn a.f5
 refine TL.c (Step.cz (ok_laws_heldQc a.f5 b.f5 ((k + (a.f3.length : Int)) + (a.f4.length : Int)) p_4 (by first | omega | (have := SQc.cm_le (x := a.f5) (by assumption); omega)) p_37)) ?_
 refine TL.rl [(1, (pI (((k + (a.f3.length : Int)) + (a.f4.length : Int)) + a.f5.cm)))] [] ?_
 refine T.seq (T.sg ?_)
 refine TL.rx 2 [(22, (pB (decide ((((k + (a.f3.length : Int)) + (a.f4.length : Int)) + a.f5.cm) < 0))))] [] ?_
 refine TL.known 22 (c := false) (decide_eq_false p_4) rfl ?_
 refine TL.nil (T.cf (T.skip ?_))
 refine T.sr [(4, (pI (((k + (a.f3.length : Int)) + (a.f4.length : Int)) + a.f5.cm)))] [] ?_
 refine T.ret ?_
 refine ⟨_, (.cons rfl .nil), rfl, _, (.r ?_ .nil)⟩ <;> (first | rfl | (congr 1; simp only [SHead.cm]; omega))
theorem ok_laws_heldBlock (a : SBlock) (b : SBlock) (k : Int) (h0_ : 0 ≤ k) (h1_ : k + a.cm ≤ 4611686018427387904) (h2_ : SBlock.hm a b k) : RO Tryz.prog 52 [.agg b.cells, .one (.int .i64 k)] [(false, [.rd (.int .i64 (k + a.cm))])] := by
 refine RO.intro Tryz.func52 rfl 18 rfl (le_ok rfl) fun w Z => ?_
 obtain ⟨p0, p1⟩ := h2_
 have n0 := SHead.cm_nn a.f0
 have n1 := cntBs_nonneg a.f1
 simp only [SBlock.cm] at h1_
 refine T.sr [(2, (.one (.ptr 2 0))), (4, (pI 0))] [(2, (33, (c_64 b)))] ?_
 refine T.sg ?_
 refine TL.rx 3 [(6, (.agg (c_67 b))), (7, (pI k))] [] ?_
 have nn1 := SHead.cm_nn a.f0
 refine TL.c (Step.cz (ok_laws_heldHead a.f0 b.f0 k p_4 (by first | omega | (have := SHead.cm_le (x := a.f0) (by assumption); omega)) p_37)) ?_
 refine TL.rl [(1, (pI (k + a.f0.cm)))] [] ?_
 refine T.seq (T.sg ?_)
 refine TL.rx 2 [(10, (pB (decide ((k + a.f0.cm) < 0))))] [] ?_
 refine TL.known 10 (c := false) (decide_eq_false p_4) rfl ?_
 refine TL.nil (T.cf (T.skip (T.sg ?_)))
 refine TL.rx 3 [(12, (.one (.d (.bss b.f1)))), (13, (pI (k + a.f0.cm)))] [] ?_
 have nn2 := cntBs_nonneg a.f1
 refine TL.c (Step.cz (ok_laws_heldByteSS a.f1 b.f1 (k + a.f0.cm) p_4 (by first | omega | (have := cntBs_le (xs := a.f1) (by assumption); omega)) p_37)) ?_
 refine TL.rl [(1, (pI ((k + a.f0.cm) + cntL (fun x : List Int => (x.length : Int)) a.f1)))] [] ?_
 refine T.seq (T.sg ?_)
 refine TL.rx 2 [(16, (pB (decide (((k + a.f0.cm) + cntL (fun x : List Int => (x.length : Int)) a.f1) < 0))))] [] ?_
 refine TL.known 16 (c := false) (decide_eq_false p_4) rfl ?_
 refine TL.nil (T.cf (T.skip ?_))
 refine T.sr [(4, (pI ((k + a.f0.cm) + cntL (fun x : List Int => (x.length : Int)) a.f1)))] [] ?_
 refine T.ret ?_
 refine ⟨_, (.cons rfl .nil), rfl, _, (.r ?_ .nil)⟩ <;> (first | rfl | (congr 1; simp only [SBlock.cm]; omega))
theorem ok_laws_heldEntryS (a : List SEntry) (b : List SEntry) (k : Int) (h0_ : 0 ≤ k) (h1_ : k + cntL SEntry.ce a ≤ 4611686018427387904) (h2_ : b = mkL SEntry.ce SEntry.me a k) : RO Tryz.prog 94 [.one (.sl 3 (b.map SEntry.cells)), .one (.int .i64 k)] [(false, [.rd (.int .i64 (k + cntL SEntry.ce a))])] := by
 refine RO.intro Tryz.func94 rfl 40 rfl (le_ok rfl) fun w Z => ?_
 refine T.bnd 0 0 rfl rfl fun hb_0_0 => ?_
 simp only [D.size, List.length_map] at hb_0_0
 have hl_ : b.length = a.length := by rw [h2_, mkL_length]
 have hg_ : ∀ i, i < a.length → b.getD i default = SEntry.me (a.getD i default) (k + cntL SEntry.ce (a.take i)) := fun i hi => by rw [h2_, mkL_getD _ _ _ _ hi]
 refine T.sr [(4, (pI 0))] [] ?_
 refine T.seq ?_
 refine T.sr [(5, (pI 0))] [] ?_
 refine T.block ?_
 refine T.loop (ι := Nat) (fun xx_ => { tm := [(0, (.one (.d (.sl 3 (b.map SEntry.cells))))), (5, (pI (xx_ : Int))), (1, (pI (k + cntL SEntry.ce (a.take xx_))))], rows := [], boxes := [] }) (fun xx_ => xx_ ≤ a.length) (fun xx_ => a.length - xx_) 0 ?_ ?_ ?_
 · refine Env.le_mk ⟨rfl, ?_, ?_, trivial⟩ trivial trivial <;> exact p_63
 · exact Nat.zero_le _
 intro i hx
 try dsimp only at hx ⊢
 refine T.seq (T.sg ?_)
 refine TL.rx 2 [(6, (pI (i : Int))), (7, (.one (.d (.sl 3 (b.map SEntry.cells)))))] [] ?_
 refine TL.c (Step.len' (e := 111) (z := 3) (d := (.sl 3 (b.map SEntry.cells))) (n := b.length) rfl rfl (lt_ok rfl) p_6 rfl rfl p_120) ?_
 refine TL.rl [(9, (pB (decide ((i : Int) < (b.length : Int)))))] [] ?_
 refine T.ci rfl (fun h1 => ?_) (fun h1 => ?_)
 ·have hc1 := cntL_take_le (cnt := SEntry.ce) SEntry.ce_nn a (i + 1)
  have hc2 := cntL_take_succ (cnt := SEntry.ce) (i := i) default (show i < a.length by omega)
  have hc3 := cntL_nonneg (cnt := SEntry.ce) SEntry.ce_nn (a.take i)
  have he_ := hg_ i p_4
  have hc4 : SEntry.ce (a.getD i default) = 1 + 1 + ((a.getD i default).f2.length : Int) := rfl
  have he0 : (b.getD i default).f0 = k + cntL SEntry.ce (a.take i) := by rw [he_]; rfl
  have he1 : (b.getD i default).f1 = (k + cntL SEntry.ce (a.take i)) + 1 := by rw [he_]; rfl
  have he2 : (b.getD i default).f2 = mkB (a.getD i default).f2 (((k + cntL SEntry.ce (a.take i)) + 1) + 1) := by rw [he_]; rfl
  refine T.skip (T.seq (T.block (T.seq (T.sg ?_))))
  refine TL.rx 2 [(12, (.one (.d (.sl 3 (b.map SEntry.cells))))), (13, (pI (i : Int)))] [] ?_
  refine TL.c (Step.index (e := 111) (z := 3) (i := (i : Int)) rfl rfl (lt_ok rfl) p_6 rfl rfl rfl (lt_ok rfl) rfl p_17 p_39) ?_
  refine TL.c (Step.fieldAddr_e (j := 0) (off := 0) (n := 1) (one := true) rfl rfl (lt_ok rfl) p_6 (Nat.succ_ne_zero _) rfl (lt_ok rfl)) ?_
  refine TL.c (Step.load (e := (.int .i64 (b.getD i default).f0)) rfl rfl (lt_ok rfl) p_6 rfl ((cell_map default p_17).trans rfl)) ?_
  refine TL.rl [(18, (pB (decide ((b.getD i default).f0 ≠ (k + cntL SEntry.ce (a.take i))))))] [] ?_
  refine T.ci rfl (fun h2 => ?_) (fun h2 => ?_)
  ·refine T.sr [(4, (pI (-1)))] [] ?_
   refine T.ret ?_
   exact p_137
  refine T.skip (T.sg ?_)
  refine TL.rx 1 [(19, (pI (k + cntL SEntry.ce (a.take i))))] [] ?_
  refine TL.ad ((k + cntL SEntry.ce (a.take i)) + 1) ?_
  refine TL.rl [(1, (pI ((k + cntL SEntry.ce (a.take i)) + 1)))] [] ?_
  refine T.seq (T.sg ?_)
  refine TL.rx 2 [(21, (.one (.d (.sl 3 (b.map SEntry.cells))))), (22, (pI (i : Int)))] [] ?_
  refine TL.c (Step.index (e := 111) (z := 3) (i := (i : Int)) rfl rfl (lt_ok rfl) p_6 rfl rfl rfl (lt_ok rfl) rfl p_17 p_39) ?_
  refine TL.c (Step.fieldAddr_e (j := 0) (off := 1) (n := 1) (one := true) rfl rfl (lt_ok rfl) p_6 (Nat.succ_ne_zero _) rfl (lt_ok rfl)) ?_
  refine TL.c (Step.load (e := (.int .i64 (b.getD i default).f1)) rfl rfl (lt_ok rfl) p_6 rfl ((cell_map default p_17).trans rfl)) ?_
  refine TL.rl [(27, (pB (decide ((b.getD i default).f1 ≠ ((k + cntL SEntry.ce (a.take i)) + 1)))))] [] ?_
  refine T.ci rfl (fun h3 => ?_) (fun h3 => ?_)
  ·refine T.sr [(4, (pI (-1)))] [] ?_
   refine T.ret ?_
   exact p_137
  refine T.skip (T.sg ?_)
  refine TL.rx 1 [(28, (pI ((k + cntL SEntry.ce (a.take i)) + 1)))] [] ?_
  refine TL.ad (((k + cntL SEntry.ce (a.take i)) + 1) + 1) ?_
  refine TL.rl [(1, (pI (((k + cntL SEntry.ce (a.take i)) + 1) + 1)))] [] ?_
  refine T.sg ?_
  refine TL.rx 2 [(30, (.one (.d (.sl 3 (b.map SEntry.cells))))), (31, (pI (i : Int)))] [] ?_
  refine TL.c (Step.index (e := 111) (z := 3) (i := (i : Int)) rfl rfl (lt_ok rfl) p_6 rfl rfl rfl (lt_ok rfl) rfl p_17 p_39) ?_
  refine TL.c (Step.fieldAddr_e (j := 0) (off := 2) (n := 1) (one := true) rfl rfl (lt_ok rfl) p_6 (Nat.succ_ne_zero _) rfl (lt_ok rfl)) ?_
  refine TL.c (Step.load (e := (.ints .u8 (b.getD i default).f2)) rfl rfl (lt_ok rfl) p_6 rfl ((cell_map default p_17).trans rfl)) ?_
  refine TL.rx 1 [(35, (pI (((k + cntL SEntry.ce (a.take i)) + 1) + 1)))] [] ?_
  refine TL.c (Step.cz (ok_laws_heldByteS (a.getD i default).f2 (b.getD i default).f2 (((k + cntL SEntry.ce (a.take i)) + 1) + 1) p_4 p_57 p_37)) ?_
  refine TL.rl [(1, (pI ((((k + cntL SEntry.ce (a.take i)) + 1) + 1) + ((a.getD i default).f2.length : Int))))] [] ?_
  refine T.sg ?_
  refine TL.rx 2 [(38, (pB (decide (((((k + cntL SEntry.ce (a.take i)) + 1) + 1) + ((a.getD i default).f2.length : Int)) < 0))))] [] ?_
  refine TL.known 38 (c := false) (decide_eq_false p_4) rfl ?_
  refine TL.nil (T.cf (T.skip (T.region ?_)))
  refine TL.rx 1 [(10, (pI (i : Int)))] [] ?_
  refine TL.ad ((i : Int) + 1) ?_
  refine TL.rl [(5, (pI ((i : Int) + 1)))] [] ?_
  refine ⟨i + 1, by omega, by first | omega | (dsimp only; omega), Env.le_mk ⟨rfl, ?_, ?_, trivial⟩ trivial trivial⟩ <;> exact p_63
 refine T.exit ?_
 refine T.sr [(4, (pI (k + cntL SEntry.ce (a.take i))))] [] ?_
 refine T.ret ?_
 exact p_137
theorem ok_laws_heldTc (a : STc) (b : STc) (k : Int) (h0_ : 0 ≤ k) (h1_ : k + a.cm ≤ 4611686018427387904) (h2_ : STc.hm a b k) : RO Tryz.prog 53 [.agg b.cells, .one (.int .i64 k)] [(false, [.rd (.int .i64 (k + a.cm))])] := by
 refine RO.intro Tryz.func53 rfl 12 rfl (le_ok rfl) fun w Z => ?_
 have p0 : b.f1 = mkL SEntry.ce SEntry.me a.f1 k := h2_
 have n1 := cntL_nonneg SEntry.ce_nn a.f1
 simp only [STc.cm] at h1_
 refine T.sr [(2, (.one (.ptr 2 0))), (4, (pI 0))] [(2, (36, [cI b.f0, .d (.sl 3 (b.f1.map SEntry.cells))]))] ?_
 refine T.sg ?_
 refine TL.rx 3 [(6, (.one (.d (.sl 3 (b.f1.map SEntry.cells))))), (7, (pI k))] [] ?_
 have nn1 := cntL_nonneg SEntry.ce_nn a.f1
 refine TL.c (Step.cz (ok_laws_heldEntryS a.f1 b.f1 k p_4 (by first | omega | (have := SEntry.cL_le (xs := a.f1) (by assumption); omega)) p_37)) ?_
 refine TL.rl [(1, (pI (k + cntL SEntry.ce a.f1)))] [] ?_
 refine T.seq (T.sg ?_)
 refine TL.rx 2 [(10, (pB (decide ((k + cntL SEntry.ce a.f1) < 0))))] [] ?_
 refine TL.known 10 (c := false) (decide_eq_false p_4) rfl ?_
 refine TL.nil (T.cf (T.skip ?_))
 refine T.sr [(4, (pI (k + cntL SEntry.ce a.f1)))] [] ?_
 refine T.ret ?_
 refine ⟨_, (.cons rfl .nil), rfl, _, (.r ?_ .nil)⟩ <;> (first | rfl | (congr 1; simp only [STc.cm]; omega))
theorem ok_laws_heldHeadS (a : List SHead) (b : List SHead) (k : Int) (h0_ : 0 ≤ k) (h1_ : k + cntL SHead.ce a ≤ 4611686018427387904) (h2_ : b = mkL SHead.ce SHead.me a k) : RO Tryz.prog 95 [.one (.sl 10 (b.map SHead.cells)), .one (.int .i64 k)] [(false, [.rd (.int .i64 (k + cntL SHead.ce a))])] := by
 refine RO.intro Tryz.func95 rfl 108 rfl (le_ok rfl) fun w Z => ?_
 refine T.bnd 0 0 rfl rfl fun hb_0_0 => ?_
 simp only [D.size, List.length_map] at hb_0_0
 have hl_ : b.length = a.length := by rw [h2_, mkL_length]
 have hg_ : ∀ i, i < a.length → b.getD i default = SHead.me (a.getD i default) (k + cntL SHead.ce (a.take i)) := fun i hi => by rw [h2_, mkL_getD _ _ _ _ hi]
 refine T.sr [(4, (pI 0))] [] ?_
 refine T.seq ?_
 refine T.sr [(5, (pI 0))] [] ?_
 refine T.block ?_
 refine T.loop (ι := Nat) (fun xx_ => { tm := [(0, (.one (.d (.sl 10 (b.map SHead.cells))))), (5, (pI (xx_ : Int))), (1, (pI (k + cntL SHead.ce (a.take xx_))))], rows := [], boxes := [] }) (fun xx_ => xx_ ≤ a.length) (fun xx_ => a.length - xx_) 0 ?_ ?_ ?_
 · refine Env.le_mk ⟨rfl, ?_, ?_, trivial⟩ trivial trivial <;> exact p_63
 · exact Nat.zero_le _
 intro i hx
 try dsimp only at hx ⊢
 refine T.seq (T.sg ?_)
 refine TL.rx 2 [(6, (pI (i : Int))), (7, (.one (.d (.sl 10 (b.map SHead.cells)))))] [] ?_
 refine TL.c (Step.len' (e := 31) (z := 10) (d := (.sl 10 (b.map SHead.cells))) (n := b.length) rfl rfl (lt_ok rfl) p_6 rfl rfl p_120) ?_
 refine TL.rl [(9, (pB (decide ((i : Int) < (b.length : Int)))))] [] ?_
 refine T.ci rfl (fun h1 => ?_) (fun h1 => ?_)
 ·have hc1 := cntL_take_le (cnt := SHead.ce) SHead.ce_nn a (i + 1)
  have hc2 := cntL_take_succ (cnt := SHead.ce) (i := i) default (show i < a.length by omega)
  have hc3 := cntL_nonneg (cnt := SHead.ce) SHead.ce_nn (a.take i)
  have he_ := hg_ i p_4
  have hc4 : SHead.ce (a.getD i default) = 1 + 1 + 1 + ((a.getD i default).f3.length : Int) + ((a.getD i default).f4.length : Int) + (1 + 1 + ((a.getD i default).f5.f2.length : Int) + ((a.getD i default).f5.f3.length : Int) + cntL (fun x : List Int => (x.length : Int)) (a.getD i default).f5.f4) := rfl
  have hn0 := cntBs_nonneg (a.getD i default).f5.f4
  have he0 : (b.getD i default).f0 = k + cntL SHead.ce (a.take i) := by rw [he_]; rfl
  have he1 : (b.getD i default).f1 = (k + cntL SHead.ce (a.take i)) + 1 := by rw [he_]; rfl
  have he2 : (b.getD i default).f2 = ((k + cntL SHead.ce (a.take i)) + 1) + 1 := by rw [he_]; rfl
  have he3 : (b.getD i default).f3 = mkB (a.getD i default).f3 ((((k + cntL SHead.ce (a.take i)) + 1) + 1) + 1) := by rw [he_]; rfl
  have he4 : (b.getD i default).f4 = mkB (a.getD i default).f4 (((((k + cntL SHead.ce (a.take i)) + 1) + 1) + 1) + ((a.getD i default).f3.length : Int)) := by rw [he_]; rfl
  have he5 : (b.getD i default).f5.f0 = (((((k + cntL SHead.ce (a.take i)) + 1) + 1) + 1) + ((a.getD i default).f3.length : Int)) + ((a.getD i default).f4.length : Int) := by rw [he_]; rfl
  have he6 : (b.getD i default).f5.f1 = ((((((k + cntL SHead.ce (a.take i)) + 1) + 1) + 1) + ((a.getD i default).f3.length : Int)) + ((a.getD i default).f4.length : Int)) + 1 := by rw [he_]; rfl
  have he7 : (b.getD i default).f5.f2 = mkB (a.getD i default).f5.f2 ((((((((k + cntL SHead.ce (a.take i)) + 1) + 1) + 1) + ((a.getD i default).f3.length : Int)) + ((a.getD i default).f4.length : Int)) + 1) + 1) := by rw [he_]; rfl
  have he8 : (b.getD i default).f5.f3 = mkB (a.getD i default).f5.f3 (((((((((k + cntL SHead.ce (a.take i)) + 1) + 1) + 1) + ((a.getD i default).f3.length : Int)) + ((a.getD i default).f4.length : Int)) + 1) + 1) + ((a.getD i default).f5.f2.length : Int)) := by rw [he_]; rfl
  have he9 : (b.getD i default).f5.f4 = mkBs (a.getD i default).f5.f4 ((((((((((k + cntL SHead.ce (a.take i)) + 1) + 1) + 1) + ((a.getD i default).f3.length : Int)) + ((a.getD i default).f4.length : Int)) + 1) + 1) + ((a.getD i default).f5.f2.length : Int)) + ((a.getD i default).f5.f3.length : Int)) := by rw [he_]; rfl
  refine T.skip (T.seq (T.block (T.seq (T.sg ?_))))
  refine TL.rx 2 [(12, (.one (.d (.sl 10 (b.map SHead.cells))))), (13, (pI (i : Int)))] [] ?_
  refine TL.c (Step.index (e := 31) (z := 10) (i := (i : Int)) rfl rfl (lt_ok rfl) p_6 rfl rfl rfl (lt_ok rfl) rfl p_17 p_39) ?_
  refine TL.c (Step.fieldAddr_e (j := 0) (off := 0) (n := 1) (one := true) rfl rfl (lt_ok rfl) p_6 (Nat.succ_ne_zero _) rfl (lt_ok rfl)) ?_
  refine TL.c (Step.load (e := (.int .i64 (b.getD i default).f0)) rfl rfl (lt_ok rfl) p_6 rfl ((cell_map default p_17).trans rfl)) ?_
  refine TL.rl [(18, (pB (decide ((b.getD i default).f0 ≠ (k + cntL SHead.ce (a.take i))))))] [] ?_
  refine T.ci rfl (fun h2 => ?_) (fun h2 => ?_)
  ·refine T.sr [(4, (pI (-1)))] [] ?_
   refine T.ret ?_
   exact p_137
  refine T.skip (T.sg ?_)
  refine TL.rx 1 [(19, (pI (k + cntL SHead.ce (a.take i))))] [] ?_
  refine TL.ad ((k + cntL SHead.ce (a.take i)) + 1) ?_
  refine TL.rl [(1, (pI ((k + cntL SHead.ce (a.take i)) + 1)))] [] ?_
  refine T.seq (T.sg ?_)
  refine TL.rx 2 [(21, (.one (.d (.sl 10 (b.map SHead.cells))))), (22, (pI (i : Int)))] [] ?_
  refine TL.c (Step.index (e := 31) (z := 10) (i := (i : Int)) rfl rfl (lt_ok rfl) p_6 rfl rfl rfl (lt_ok rfl) rfl p_17 p_39) ?_
  refine TL.c (Step.fieldAddr_e (j := 0) (off := 1) (n := 1) (one := true) rfl rfl (lt_ok rfl) p_6 (Nat.succ_ne_zero _) rfl (lt_ok rfl)) ?_
  refine TL.c (Step.load (e := (.int .i64 (b.getD i default).f1)) rfl rfl (lt_ok rfl) p_6 rfl ((cell_map default p_17).trans rfl)) ?_
  refine TL.rl [(27, (pB (decide ((b.getD i default).f1 ≠ ((k + cntL SHead.ce (a.take i)) + 1)))))] [] ?_
  refine T.ci rfl (fun h3 => ?_) (fun h3 => ?_)
  ·refine T.sr [(4, (pI (-1)))] [] ?_
   refine T.ret ?_
   exact p_137
  refine T.skip (T.sg ?_)
  refine TL.rx 1 [(28, (pI ((k + cntL SHead.ce (a.take i)) + 1)))] [] ?_
  refine TL.ad (((k + cntL SHead.ce (a.take i)) + 1) + 1) ?_
  refine TL.rl [(1, (pI (((k + cntL SHead.ce (a.take i)) + 1) + 1)))] [] ?_
  refine T.seq (T.sg ?_)
  refine TL.rx 2 [(30, (.one (.d (.sl 10 (b.map SHead.cells))))), (31, (pI (i : Int)))] [] ?_
  refine TL.c (Step.index (e := 31) (z := 10) (i := (i : Int)) rfl rfl (lt_ok rfl) p_6 rfl rfl rfl (lt_ok rfl) rfl p_17 p_39) ?_
  refine TL.c (Step.fieldAddr_e (j := 0) (off := 2) (n := 1) (one := true) rfl rfl (lt_ok rfl) p_6 (Nat.succ_ne_zero _) rfl (lt_ok rfl)) ?_
  refine TL.c (Step.load (e := (.int .i64 (b.getD i default).f2)) rfl rfl (lt_ok rfl) p_6 rfl ((cell_map default p_17).trans rfl)) ?_
  refine TL.rl [(36, (pB (decide ((b.getD i default).f2 ≠ (((k + cntL SHead.ce (a.take i)) + 1) + 1)))))] [] ?_
  refine T.ci rfl (fun h4 => ?_) (fun h4 => ?_)
  ·refine T.sr [(4, (pI (-1)))] [] ?_
   refine T.ret ?_
   exact p_137
  refine T.skip (T.sg ?_)
  refine TL.rx 1 [(37, (pI (((k + cntL SHead.ce (a.take i)) + 1) + 1)))] [] ?_
  refine TL.ad ((((k + cntL SHead.ce (a.take i)) + 1) + 1) + 1) ?_
  refine TL.rl [(1, (pI ((((k + cntL SHead.ce (a.take i)) + 1) + 1) + 1)))] [] ?_
  refine T.sg ?_
  refine TL.rx 2 [(39, (.one (.d (.sl 10 (b.map SHead.cells))))), (40, (pI (i : Int)))] [] ?_
  refine TL.c (Step.index (e := 31) (z := 10) (i := (i : Int)) rfl rfl (lt_ok rfl) p_6 rfl rfl rfl (lt_ok rfl) rfl p_17 p_39) ?_
  refine TL.c (Step.fieldAddr_e (j := 0) (off := 3) (n := 1) (one := true) rfl rfl (lt_ok rfl) p_6 (Nat.succ_ne_zero _) rfl (lt_ok rfl)) ?_
  refine TL.c (Step.load (e := (.ints .u8 (b.getD i default).f3)) rfl rfl (lt_ok rfl) p_6 rfl ((cell_map default p_17).trans rfl)) ?_
  refine TL.rx 1 [(44, (pI ((((k + cntL SHead.ce (a.take i)) + 1) + 1) + 1)))] [] ?_
  refine TL.c (Step.cz (ok_laws_heldByteS (a.getD i default).f3 (b.getD i default).f3 ((((k + cntL SHead.ce (a.take i)) + 1) + 1) + 1) p_4 p_57 p_37)) ?_
  refine TL.rl [(1, (pI (((((k + cntL SHead.ce (a.take i)) + 1) + 1) + 1) + ((a.getD i default).f3.length : Int))))] [] ?_
  refine T.seq (T.sg ?_)
  refine TL.rx 2 [(47, (pB (decide ((((((k + cntL SHead.ce (a.take i)) + 1) + 1) + 1) + ((a.getD i default).f3.length : Int)) < 0))))] [] ?_
  refine TL.known 47 (c := false) (decide_eq_false p_4) rfl ?_
  refine TL.nil (T.cf (T.skip (T.sg ?_)))
  refine TL.rx 2 [(48, (.one (.d (.sl 10 (b.map SHead.cells))))), (49, (pI (i : Int)))] [] ?_
  refine TL.c (Step.index (e := 31) (z := 10) (i := (i : Int)) rfl rfl (lt_ok rfl) p_6 rfl rfl rfl (lt_ok rfl) rfl p_17 p_39) ?_
  refine TL.c (Step.fieldAddr_e (j := 0) (off := 4) (n := 1) (one := true) rfl rfl (lt_ok rfl) p_6 (Nat.succ_ne_zero _) rfl (lt_ok rfl)) ?_
  refine TL.c (Step.load (e := (.ints .u8 (b.getD i default).f4)) rfl rfl (lt_ok rfl) p_6 rfl ((cell_map default p_17).trans rfl)) ?_
  refine TL.rx 1 [(53, (pI (((((k + cntL SHead.ce (a.take i)) + 1) + 1) + 1) + ((a.getD i default).f3.length : Int))))] [] ?_
  refine TL.c (Step.cz (ok_laws_heldByteS (a.getD i default).f4 (b.getD i default).f4 (((((k + cntL SHead.ce (a.take i)) + 1) + 1) + 1) + ((a.getD i default).f3.length : Int)) p_4 p_57 p_37)) ?_
  refine TL.rl [(1, (pI ((((((k + cntL SHead.ce (a.take i)) + 1) + 1) + 1) + ((a.getD i default).f3.length : Int)) + ((a.getD i default).f4.length : Int))))] [] ?_
  refine T.seq (T.sg ?_)
  refine TL.rx 2 [(56, (pB (decide (((((((k + cntL SHead.ce (a.take i)) + 1) + 1) + 1) + ((a.getD i default).f3.length : Int)) + ((a.getD i default).f4.length : Int)) < 0))))] [] ?_
  refine TL.known 56 (c := false) (decide_eq_false p_4) rfl ?_
  refine TL.nil (T.cf (T.skip (T.seq (T.sg ?_))))
  refine TL.rx 2 [(57, (.one (.d (.sl 10 (b.map SHead.cells))))), (58, (pI (i : Int)))] [] ?_
  refine TL.c (Step.index (e := 31) (z := 10) (i := (i : Int)) rfl rfl (lt_ok rfl) p_6 rfl rfl rfl (lt_ok rfl) rfl p_17 p_39) ?_
  refine TL.c (Step.fieldAddr_e (j := 0) (off := 5) (n := 5) (one := false) rfl rfl (lt_ok rfl) p_6 (Nat.succ_ne_zero _) rfl (lt_ok rfl)) ?_
  refine TL.c (Step.fieldAddr_e (j := 5) (off := 0) (n := 1) (one := true) rfl rfl (lt_ok rfl) p_6 (Nat.succ_ne_zero _) rfl (lt_ok rfl)) ?_
  refine TL.c (Step.load (e := (.int .i64 (b.getD i default).f5.f0)) rfl rfl (lt_ok rfl) p_6 rfl ((cell_map default p_17).trans rfl)) ?_
  refine TL.rl [(64, (pB (decide ((b.getD i default).f5.f0 ≠ ((((((k + cntL SHead.ce (a.take i)) + 1) + 1) + 1) + ((a.getD i default).f3.length : Int)) + ((a.getD i default).f4.length : Int))))))] [] ?_
  refine T.ci rfl (fun h5 => ?_) (fun h5 => ?_)
  ·refine T.sr [(4, (pI (-1)))] [] ?_
   refine T.ret ?_
   exact p_137
  refine T.skip (T.sg ?_)
  refine TL.rx 1 [(65, (pI ((((((k + cntL SHead.ce (a.take i)) + 1) + 1) + 1) + ((a.getD i default).f3.length : Int)) + ((a.getD i default).f4.length : Int))))] [] ?_
  refine TL.ad (((((((k + cntL SHead.ce (a.take i)) + 1) + 1) + 1) + ((a.getD i default).f3.length : Int)) + ((a.getD i default).f4.length : Int)) + 1) ?_
  refine TL.rl [(1, (pI (((((((k + cntL SHead.ce (a.take i)) + 1) + 1) + 1) + ((a.getD i default).f3.length : Int)) + ((a.getD i default).f4.length : Int)) + 1)))] [] ?_
  refine T.seq (T.sg ?_)
  refine TL.rx 2 [(67, (.one (.d (.sl 10 (b.map SHead.cells))))), (68, (pI (i : Int)))] [] ?_
  refine TL.c (Step.index (e := 31) (z := 10) (i := (i : Int)) rfl rfl (lt_ok rfl) p_6 rfl rfl rfl (lt_ok rfl) rfl p_17 p_39) ?_
  refine TL.c (Step.fieldAddr_e (j := 0) (off := 5) (n := 5) (one := false) rfl rfl (lt_ok rfl) p_6 (Nat.succ_ne_zero _) rfl (lt_ok rfl)) ?_
  refine TL.c (Step.fieldAddr_e (j := 5) (off := 1) (n := 1) (one := true) rfl rfl (lt_ok rfl) p_6 (Nat.succ_ne_zero _) rfl (lt_ok rfl)) ?_
  refine TL.c (Step.load (e := (.int .i64 (b.getD i default).f5.f1)) rfl rfl (lt_ok rfl) p_6 rfl ((cell_map default p_17).trans rfl)) ?_
  refine TL.rl [(74, (pB (decide ((b.getD i default).f5.f1 ≠ (((((((k + cntL SHead.ce (a.take i)) + 1) + 1) + 1) + ((a.getD i default).f3.length : Int)) + ((a.getD i default).f4.length : Int)) + 1)))))] [] ?_
  refine T.ci rfl (fun h6 => ?_) (fun h6 => ?_)
  ·refine T.sr [(4, (pI (-1)))] [] ?_
   refine T.wk [(0, (.one (.d (.sl 10 (b.map SHead.cells))))), (5, (pI (i : Int))), (1, (pI (((((((k + cntL SHead.ce (a.take i)) + 1) + 1) + 1) + ((a.getD i default).f3.length : Int)) + ((a.getD i default).f4.length : Int)) + 1))), (4, (pI (-1)))] [] [] ?_
   refine T.ret ?_
   exact p_137
  refine T.skip ?_
  refine T.wk [(0, (.one (.d (.sl 10 (b.map SHead.cells))))), (5, (pI (i : Int))), (1, (pI (((((((k + cntL SHead.ce (a.take i)) + 1) + 1) + 1) + ((a.getD i default).f3.length : Int)) + ((a.getD i default).f4.length : Int)) + 1)))] [] [] ?_
  refine T.sg ?_
  refine TL.rx 1 [(75, (pI (((((((k + cntL SHead.ce (a.take i)) + 1) + 1) + 1) + ((a.getD i default).f3.length : Int)) + ((a.getD i default).f4.length : Int)) + 1)))] [] ?_
  refine TL.ad ((((((((k + cntL SHead.ce (a.take i)) + 1) + 1) + 1) + ((a.getD i default).f3.length : Int)) + ((a.getD i default).f4.length : Int)) + 1) + 1) ?_
  refine TL.rl [(1, (pI ((((((((k + cntL SHead.ce (a.take i)) + 1) + 1) + 1) + ((a.getD i default).f3.length : Int)) + ((a.getD i default).f4.length : Int)) + 1) + 1)))] [] ?_
  refine T.sg ?_
  refine TL.rx 2 [(77, (.one (.d (.sl 10 (b.map SHead.cells))))), (78, (pI (i : Int)))] [] ?_
  refine TL.c (Step.index (e := 31) (z := 10) (i := (i : Int)) rfl rfl (lt_ok rfl) p_6 rfl rfl rfl (lt_ok rfl) rfl p_17 p_39) ?_
  refine TL.c (Step.fieldAddr_e (j := 0) (off := 5) (n := 5) (one := false) rfl rfl (lt_ok rfl) p_6 (Nat.succ_ne_zero _) rfl (lt_ok rfl)) ?_
  refine TL.c (Step.fieldAddr_e (j := 5) (off := 2) (n := 1) (one := true) rfl rfl (lt_ok rfl) p_6 (Nat.succ_ne_zero _) rfl (lt_ok rfl)) ?_
  refine TL.c (Step.load (e := (.ints .u8 (b.getD i default).f5.f2)) rfl rfl (lt_ok rfl) p_6 rfl ((cell_map default p_17).trans rfl)) ?_
  refine TL.rx 1 [(83, (pI ((((((((k + cntL SHead.ce (a.take i)) + 1) + 1) + 1) + ((a.getD i default).f3.length : Int)) + ((a.getD i default).f4.length : Int)) + 1) + 1)))] [] ?_
  refine TL.c (Step.cz (ok_laws_heldByteS (a.getD i default).f5.f2 (b.getD i default).f5.f2 ((((((((k + cntL SHead.ce (a.take i)) + 1) + 1) + 1) + ((a.getD i default).f3.length : Int)) + ((a.getD i default).f4.length : Int)) + 1) + 1) p_4 p_57 p_37)) ?_
  refine TL.rl [(1, (pI (((((((((k + cntL SHead.ce (a.take i)) + 1) + 1) + 1) + ((a.getD i default).f3.length : Int)) + ((a.getD i default).f4.length : Int)) + 1) + 1) + ((a.getD i default).f5.f2.length : Int))))] [] ?_
  refine T.seq (T.sg ?_)
  refine TL.rx 2 [(86, (pB (decide ((((((((((k + cntL SHead.ce (a.take i)) + 1) + 1) + 1) + ((a.getD i default).f3.length : Int)) + ((a.getD i default).f4.length : Int)) + 1) + 1) + ((a.getD i default).f5.f2.length : Int)) < 0))))] [] ?_
  refine TL.known 86 (c := false) (decide_eq_false p_4) rfl ?_
  refine TL.nil (T.cf (T.skip (T.sg ?_)))
  refine TL.rx 2 [(87, (.one (.d (.sl 10 (b.map SHead.cells))))), (88, (pI (i : Int)))] [] ?_
  refine TL.c (Step.index (e := 31) (z := 10) (i := (i : Int)) rfl rfl (lt_ok rfl) p_6 rfl rfl rfl (lt_ok rfl) rfl p_17 p_39) ?_
  refine TL.c (Step.fieldAddr_e (j := 0) (off := 5) (n := 5) (one := false) rfl rfl (lt_ok rfl) p_6 (Nat.succ_ne_zero _) rfl (lt_ok rfl)) ?_
  refine TL.c (Step.fieldAddr_e (j := 5) (off := 3) (n := 1) (one := true) rfl rfl (lt_ok rfl) p_6 (Nat.succ_ne_zero _) rfl (lt_ok rfl)) ?_
  refine TL.c (Step.load (e := (.ints .u8 (b.getD i default).f5.f3)) rfl rfl (lt_ok rfl) p_6 rfl ((cell_map default p_17).trans rfl)) ?_
  refine TL.rx 1 [(93, (pI (((((((((k + cntL SHead.ce (a.take i)) + 1) + 1) + 1) + ((a.getD i default).f3.length : Int)) + ((a.getD i default).f4.length : Int)) + 1) + 1) + ((a.getD i default).f5.f2.length : Int))))] [] ?_
  refine TL.c (Step.cz (ok_laws_heldByteS (a.getD i default).f5.f3 (b.getD i default).f5.f3 (((((((((k + cntL SHead.ce (a.take i)) + 1) + 1) + 1) + ((a.getD i default).f3.length : Int)) + ((a.getD i default).f4.length : Int)) + 1) + 1) + ((a.getD i default).f5.f2.length : Int)) p_4 p_57 p_37)) ?_
  refine TL.rl [(1, (pI ((((((((((k + cntL SHead.ce (a.take i)) + 1) + 1) + 1) + ((a.getD i default).f3.length : Int)) + ((a.getD i default).f4.length : Int)) + 1) + 1) + ((a.getD i default).f5.f2.length : Int)) + ((a.getD i default).f5.f3.length : Int))))] [] ?_
  refine T.seq (T.sg ?_)
  refine TL.rx 2 [(96, (pB (decide (((((((((((k + cntL SHead.ce (a.take i)) + 1) + 1) + 1) + ((a.getD i default).f3.length : Int)) + ((a.getD i default).f4.length : Int)) + 1) + 1) + ((a.getD i default).f5.f2.length : Int)) + ((a.getD i default).f5.f3.length : Int)) < 0))))] [] ?_
  refine TL.known 96 (c := false) (decide_eq_false p_4) rfl ?_
  refine TL.nil (T.cf (T.skip (T.sg ?_)))
  refine TL.rx 2 [(97, (.one (.d (.sl 10 (b.map SHead.cells))))), (98, (pI (i : Int)))] [] ?_
  refine TL.c (Step.index (e := 31) (z := 10) (i := (i : Int)) rfl rfl (lt_ok rfl) p_6 rfl rfl rfl (lt_ok rfl) rfl p_17 p_39) ?_
  refine TL.c (Step.fieldAddr_e (j := 0) (off := 5) (n := 5) (one := false) rfl rfl (lt_ok rfl) p_6 (Nat.succ_ne_zero _) rfl (lt_ok rfl)) ?_
  refine TL.c (Step.fieldAddr_e (j := 5) (off := 4) (n := 1) (one := true) rfl rfl (lt_ok rfl) p_6 (Nat.succ_ne_zero _) rfl (lt_ok rfl)) ?_
  refine TL.c (Step.load (e := (.bss (b.getD i default).f5.f4)) rfl rfl (lt_ok rfl) p_6 rfl ((cell_map default p_17).trans rfl)) ?_
  refine TL.rx 1 [(103, (pI ((((((((((k + cntL SHead.ce (a.take i)) + 1) + 1) + 1) + ((a.getD i default).f3.length : Int)) + ((a.getD i default).f4.length : Int)) + 1) + 1) + ((a.getD i default).f5.f2.length : Int)) + ((a.getD i default).f5.f3.length : Int))))] [] ?_
  have nn7 := cntBs_nonneg (a.getD i default).f5.f4
  refine TL.c (Step.cz (ok_laws_heldByteSS (a.getD i default).f5.f4 (b.getD i default).f5.f4 ((((((((((k + cntL SHead.ce (a.take i)) + 1) + 1) + 1) + ((a.getD i default).f3.length : Int)) + ((a.getD i default).f4.length : Int)) + 1) + 1) + ((a.getD i default).f5.f2.length : Int)) + ((a.getD i default).f5.f3.length : Int)) p_4 (by first | omega | (have := cntBs_le (xs := (a.getD i default).f5.f4) (by assumption); omega)) p_37)) ?_
  refine TL.rl [(1, (pI (((((((((((k + cntL SHead.ce (a.take i)) + 1) + 1) + 1) + ((a.getD i default).f3.length : Int)) + ((a.getD i default).f4.length : Int)) + 1) + 1) + ((a.getD i default).f5.f2.length : Int)) + ((a.getD i default).f5.f3.length : Int)) + cntL (fun x : List Int => (x.length : Int)) (a.getD i default).f5.f4)))] [] ?_
  refine T.sg ?_
  refine TL.rx 2 [(106, (pB (decide ((((((((((((k + cntL SHead.ce (a.take i)) + 1) + 1) + 1) + ((a.getD i default).f3.length : Int)) + ((a.getD i default).f4.length : Int)) + 1) + 1) + ((a.getD i default).f5.f2.length : Int)) + ((a.getD i default).f5.f3.length : Int)) + cntL (fun x : List Int => (x.length : Int)) (a.getD i default).f5.f4) < 0))))] [] ?_
  refine TL.known 106 (c := false) (decide_eq_false p_4) rfl ?_
  refine TL.nil (T.cf (T.skip (T.region ?_)))
  refine TL.rx 1 [(10, (pI (i : Int)))] [] ?_
  refine TL.ad ((i : Int) + 1) ?_
  refine TL.rl [(5, (pI ((i : Int) + 1)))] [] ?_
  refine ⟨i + 1, by omega, by first | omega | (dsimp only; omega), Env.le_mk ⟨rfl, ?_, ?_, trivial⟩ trivial trivial⟩ <;> exact p_63
 refine T.exit ?_
 refine T.sr [(4, (pI (k + cntL SHead.ce (a.take i))))] [] ?_
 refine T.ret ?_
 exact p_137
theorem ok_laws_heldProof (a : SProof) (b : SProof) (k : Int) (h0_ : 0 ≤ k) (h1_ : k + a.cm ≤ 4611686018427387904) (h2_ : SProof.hm a b k) : RO Tryz.prog 54 [.agg b.cells, .one (.int .i64 k)] [(false, [.rd (.int .i64 (k + a.cm))])] := by
 refine RO.intro Tryz.func54 rfl 18 rfl (le_ok rfl) fun w Z => ?_
 obtain ⟨p0, p1⟩ := h2_
 have n0 := cntL_nonneg SHead.ce_nn a.f0
 have n1 := SQc.cm_nn a.f1
 simp only [SProof.cm] at h1_
 refine T.sr [(2, (.one (.ptr 2 0))), (4, (pI 0))] [(2, (39, [.d (.sl 10 (b.f0.map SHead.cells)), cI b.f1.f0, cI b.f1.f1, cS b.f1.f2, cS b.f1.f3, .d (.bss b.f1.f4)]))] ?_
 refine T.sg ?_
 refine TL.rx 3 [(6, (.one (.d (.sl 10 (b.f0.map SHead.cells))))), (7, (pI k))] [] ?_
 have nn1 := cntL_nonneg SHead.ce_nn a.f0
 refine TL.c (Step.cz (ok_laws_heldHeadS a.f0 b.f0 k p_4 (by first | omega | (have := SHead.cL_le (xs := a.f0) (by assumption); omega)) p_37)) ?_
 refine TL.rl [(1, (pI (k + cntL SHead.ce a.f0)))] [] ?_
 refine T.seq (T.sg ?_)
 refine TL.rx 2 [(10, (pB (decide ((k + cntL SHead.ce a.f0) < 0))))] [] ?_
 refine TL.known 10 (c := false) (decide_eq_false p_4) rfl ?_
 refine TL.nil (T.cf (T.skip (T.sg ?_)))
 refine TL.rx 3 [(12, (.agg [cI b.f1.f0, cI b.f1.f1, cS b.f1.f2, cS b.f1.f3, .d (.bss b.f1.f4)])), (13, (pI (k + cntL SHead.ce a.f0)))] [] ?_
 have nn2 := SQc.cm_nn a.f1
 refine TL.c (Step.cz (ok_laws_heldQc a.f1 b.f1 (k + cntL SHead.ce a.f0) p_4 (by first | omega | (have := SQc.cm_le (x := a.f1) (by assumption); omega)) p_37)) ?_
 refine TL.rl [(1, (pI ((k + cntL SHead.ce a.f0) + a.f1.cm)))] [] ?_
 refine T.seq (T.sg ?_)
 refine TL.rx 2 [(16, (pB (decide (((k + cntL SHead.ce a.f0) + a.f1.cm) < 0))))] [] ?_
 refine TL.known 16 (c := false) (decide_eq_false p_4) rfl ?_
 refine TL.nil (T.cf (T.skip ?_))
 refine T.sr [(4, (pI ((k + cntL SHead.ce a.f0) + a.f1.cm)))] [] ?_
 refine T.ret ?_
 refine ⟨_, (.cons rfl .nil), rfl, _, (.r ?_ .nil)⟩ <;> (first | rfl | (congr 1; simp only [SProof.cm]; omega))
theorem ok_laws_heldIncl (a : SIncl) (b : SIncl) (k : Int) (h0_ : 0 ≤ k) (h1_ : k + a.cm ≤ 4611686018427387904) (h2_ : SIncl.hm a b k) : RO Tryz.prog 55 [.agg b.cells, .one (.int .i64 k)] [(false, [.rd (.int .i64 (k + a.cm))])] := by
 refine RO.intro Tryz.func55 rfl 18 rfl (le_ok rfl) fun w Z => ?_
 obtain ⟨p3, p4⟩ := h2_
 have n4 := cntBs_nonneg a.f4
 simp only [SIncl.cm] at h1_
 refine T.sr [(2, (.one (.ptr 2 0))), (4, (pI 0))] [(2, (41, [cI b.f0, cI b.f1, cI b.f2, cS b.f3, .d (.bss b.f4)]))] ?_
 refine T.sg ?_
 refine TL.rx 3 [(6, (pS b.f3)), (7, (pI k))] [] ?_
 refine TL.c (Step.cz (ok_laws_heldByteS a.f3 b.f3 k p_4 p_57 p_37)) ?_
 refine TL.rl [(1, (pI (k + (a.f3.length : Int))))] [] ?_
 refine T.seq (T.sg ?_)
 refine TL.rx 2 [(10, (pB (decide ((k + (a.f3.length : Int)) < 0))))] [] ?_
 refine TL.known 10 (c := false) (decide_eq_false p_4) rfl ?_
 refine TL.nil (T.cf (T.skip (T.sg ?_)))
 refine TL.rx 3 [(12, (.one (.d (.bss b.f4)))), (13, (pI (k + (a.f3.length : Int))))] [] ?_
 have nn1 := cntBs_nonneg a.f4
 refine TL.c (Step.cz (ok_laws_heldByteSS a.f4 b.f4 (k + (a.f3.length : Int)) p_4 p_115 p_37)) ?_
 refine TL.rl [(1, (pI ((k + (a.f3.length : Int)) + cntL (fun x : List Int => (x.length : Int)) a.f4)))] [] ?_
 refine T.seq (T.sg ?_)
 refine TL.rx 2 [(16, (pB (decide (((k + (a.f3.length : Int)) + cntL (fun x : List Int => (x.length : Int)) a.f4) < 0))))] [] ?_
 refine TL.known 16 (c := false) (decide_eq_false p_4) rfl ?_
 refine TL.nil (T.cf (T.skip ?_))
 refine T.sr [(4, (pI ((k + (a.f3.length : Int)) + cntL (fun x : List Int => (x.length : Int)) a.f4)))] [] ?_
 refine T.ret ?_
 refine ⟨_, (.cons rfl .nil), rfl, _, (.r ?_ .nil)⟩ <;> (first | rfl | (congr 1; simp only [SIncl.cm]; omega))
theorem ok_laws_heldMsg (a : SMsg) (b : SMsg) (k : Int) (h0_ : 0 ≤ k) (h1_ : k + a.cm ≤ 4611686018427387904) (h2_ : SMsg.hm a b k) : RO Tryz.prog 13 [.agg b.cells, .one (.int .i64 k)] [(false, [.rd (.int .i64 (k + a.cm))])] := by
 refine RO.intro Tryz.func13 rfl 48 rfl (le_ok rfl) fun w Z => ?_
 obtain ⟨p1, p2, p3, p4, p5, p6, p7⟩ := h2_
 have n1 := SVote.cm_nn a.f1
 have n2 := SQc.cm_nn a.f2
 have n3 := SHead.cm_nn a.f3
 have n4 := SBlock.cm_nn a.f4
 have n5 := STc.cm_nn a.f5
 have n6 := SProof.cm_nn a.f6
 have n7 := SIncl.cm_nn a.f7
 simp only [SMsg.cm] at h1_
 refine T.sr [(2, (.one (.ptr 2 0))), (4, (pI 0))] [(2, (43, [cI b.f0, cI b.f1.f0, cI b.f1.f1, cS b.f1.f2, cI b.f1.f3, cS b.f1.f4, cI b.f2.f0, cI b.f2.f1, cS b.f2.f2, cS b.f2.f3, .d (.bss b.f2.f4), cI b.f3.f0, cI b.f3.f1, cI b.f3.f2, cS b.f3.f3, cS b.f3.f4, cI b.f3.f5.f0, cI b.f3.f5.f1, cS b.f3.f5.f2, cS b.f3.f5.f3, .d (.bss b.f3.f5.f4), cI b.f4.f0.f0, cI b.f4.f0.f1, cI b.f4.f0.f2, cS b.f4.f0.f3, cS b.f4.f0.f4, cI b.f4.f0.f5.f0, cI b.f4.f0.f5.f1, cS b.f4.f0.f5.f2, cS b.f4.f0.f5.f3, .d (.bss b.f4.f0.f5.f4), .d (.bss b.f4.f1), cI b.f5.f0, .d (.sl 3 (b.f5.f1.map SEntry.cells)), .d (.sl 10 (b.f6.f0.map SHead.cells)), cI b.f6.f1.f0, cI b.f6.f1.f1, cS b.f6.f1.f2, cS b.f6.f1.f3, .d (.bss b.f6.f1.f4), cI b.f7.f0, cI b.f7.f1, cI b.f7.f2, cS b.f7.f3, .d (.bss b.f7.f4)]))] ?_
 refine T.sg ?_
 refine TL.rx 3 [(6, (.agg [cI b.f1.f0, cI b.f1.f1, cS b.f1.f2, cI b.f1.f3, cS b.f1.f4])), (7, (pI k))] [] ?_
 have nn1 := SVote.cm_nn a.f1
 refine TL.c (Step.cz (ok_laws_heldVote a.f1 b.f1 k p_4 (by first | omega | (have := SVote.cm_le (x := a.f1) (by assumption); omega)) p_37)) ?_
 refine TL.rl [(1, (pI (k + a.f1.cm)))] [] ?_
 refine T.seq (T.sg ?_)
 refine TL.rx 2 [(10, (pB (decide ((k + a.f1.cm) < 0))))] [] ?_
 refine TL.known 10 (c := false) (decide_eq_false p_4) rfl ?_
 refine TL.nil (T.cf (T.skip (T.sg ?_)))
 refine TL.rx 3 [(12, (.agg [cI b.f2.f0, cI b.f2.f1, cS b.f2.f2, cS b.f2.f3, .d (.bss b.f2.f4)])), (13, (pI (k + a.f1.cm)))] [] ?_
 have nn2 := SQc.cm_nn a.f2
 refine TL.c (Step.cz (ok_laws_heldQc a.f2 b.f2 (k + a.f1.cm) p_4 (by first | omega | (have := SQc.cm_le (x := a.f2) (by assumption); omega)) p_37)) ?_
 refine TL.rl [(1, (pI ((k + a.f1.cm) + a.f2.cm)))] [] ?_
 refine T.wk [(1, (pI ((k + a.f1.cm) + a.f2.cm))), (2, (.one (.ptr 2 0))), (4, (pI 0))] [] [(2, (43, [cI b.f0, cI b.f1.f0, cI b.f1.f1, cS b.f1.f2, cI b.f1.f3, cS b.f1.f4, cI b.f2.f0, cI b.f2.f1, cS b.f2.f2, cS b.f2.f3, .d (.bss b.f2.f4), cI b.f3.f0, cI b.f3.f1, cI b.f3.f2, cS b.f3.f3, cS b.f3.f4, cI b.f3.f5.f0, cI b.f3.f5.f1, cS b.f3.f5.f2, cS b.f3.f5.f3, .d (.bss b.f3.f5.f4), cI b.f4.f0.f0, cI b.f4.f0.f1, cI b.f4.f0.f2, cS b.f4.f0.f3, cS b.f4.f0.f4, cI b.f4.f0.f5.f0, cI b.f4.f0.f5.f1, cS b.f4.f0.f5.f2, cS b.f4.f0.f5.f3, .d (.bss b.f4.f0.f5.f4), .d (.bss b.f4.f1), cI b.f5.f0, .d (.sl 3 (b.f5.f1.map SEntry.cells)), .d (.sl 10 (b.f6.f0.map SHead.cells)), cI b.f6.f1.f0, cI b.f6.f1.f1, cS b.f6.f1.f2, cS b.f6.f1.f3, .d (.bss b.f6.f1.f4), cI b.f7.f0, cI b.f7.f1, cI b.f7.f2, cS b.f7.f3, .d (.bss b.f7.f4)]))] ?_
 refine T.seq (T.sg ?_)
 refine TL.rx 2 [(16, (pB (decide (((k + a.f1.cm) + a.f2.cm) < 0))))] [] ?_
 refine TL.known 16 (c := false) (decide_eq_false p_4) rfl ?_
 refine TL.nil (T.cf (T.skip (T.sg ?_)))
 refine TL.rx 3 [(18, (.agg (c_68 b))), (19, (pI ((k + a.f1.cm) + a.f2.cm)))] [] ?_
 have nn3 := SHead.cm_nn a.f3
 refine TL.c (Step.cz (ok_laws_heldHead a.f3 b.f3 ((k + a.f1.cm) + a.f2.cm) p_4 (by first | omega | (have := SHead.cm_le (x := a.f3) (by assumption); omega)) p_37)) ?_
 refine TL.rl [(1, (pI (((k + a.f1.cm) + a.f2.cm) + a.f3.cm)))] [] ?_
 refine T.seq (T.sg ?_)
 refine TL.rx 2 [(22, (pB (decide ((((k + a.f1.cm) + a.f2.cm) + a.f3.cm) < 0))))] [] ?_
 refine TL.known 22 (c := false) (decide_eq_false p_4) rfl ?_
 refine TL.nil (T.cf (T.skip (T.sg ?_)))
 refine TL.rx 3 [(24, (.agg (c_60 b))), (25, (pI (((k + a.f1.cm) + a.f2.cm) + a.f3.cm)))] [] ?_
 have nn4 := SBlock.cm_nn a.f4
 refine TL.c (Step.cz (ok_laws_heldBlock a.f4 b.f4 (((k + a.f1.cm) + a.f2.cm) + a.f3.cm) p_4 (by first | omega | (have := SBlock.cm_le (x := a.f4) (by assumption); omega)) p_37)) ?_
 refine TL.rl [(1, (pI ((((k + a.f1.cm) + a.f2.cm) + a.f3.cm) + a.f4.cm)))] [] ?_
 refine T.seq (T.sg ?_)
 refine TL.rx 2 [(28, (pB (decide (((((k + a.f1.cm) + a.f2.cm) + a.f3.cm) + a.f4.cm) < 0))))] [] ?_
 refine TL.known 28 (c := false) (decide_eq_false p_4) rfl ?_
 refine TL.nil (T.cf (T.skip (T.sg ?_)))
 refine TL.rx 3 [(30, (.agg [cI b.f5.f0, .d (.sl 3 (b.f5.f1.map SEntry.cells))])), (31, (pI ((((k + a.f1.cm) + a.f2.cm) + a.f3.cm) + a.f4.cm)))] [] ?_
 have nn5 := STc.cm_nn a.f5
 refine TL.c (Step.cz (ok_laws_heldTc a.f5 b.f5 ((((k + a.f1.cm) + a.f2.cm) + a.f3.cm) + a.f4.cm) p_4 (by first | omega | (have := STc.cm_le (x := a.f5) (by assumption); omega)) p_37)) ?_
 refine TL.rl [(1, (pI (((((k + a.f1.cm) + a.f2.cm) + a.f3.cm) + a.f4.cm) + a.f5.cm)))] [] ?_
 refine T.seq (T.sg ?_)
 refine TL.rx 2 [(34, (pB (decide ((((((k + a.f1.cm) + a.f2.cm) + a.f3.cm) + a.f4.cm) + a.f5.cm) < 0))))] [] ?_
 refine TL.known 34 (c := false) (decide_eq_false p_4) rfl ?_
 refine TL.nil (T.cf (T.skip (T.sg ?_)))
 refine TL.rx 3 [(36, (.agg [.d (.sl 10 (b.f6.f0.map SHead.cells)), cI b.f6.f1.f0, cI b.f6.f1.f1, cS b.f6.f1.f2, cS b.f6.f1.f3, .d (.bss b.f6.f1.f4)])), (37, (pI (((((k + a.f1.cm) + a.f2.cm) + a.f3.cm) + a.f4.cm) + a.f5.cm)))] [] ?_
 have nn6 := SProof.cm_nn a.f6
 refine TL.c (Step.cz (ok_laws_heldProof a.f6 b.f6 (((((k + a.f1.cm) + a.f2.cm) + a.f3.cm) + a.f4.cm) + a.f5.cm) p_4 (by first | omega | (have := SProof.cm_le (x := a.f6) (by assumption); omega)) p_37)) ?_
 refine TL.rl [(1, (pI ((((((k + a.f1.cm) + a.f2.cm) + a.f3.cm) + a.f4.cm) + a.f5.cm) + a.f6.cm)))] [] ?_
 refine T.seq (T.sg ?_)
 refine TL.rx 2 [(40, (pB (decide (((((((k + a.f1.cm) + a.f2.cm) + a.f3.cm) + a.f4.cm) + a.f5.cm) + a.f6.cm) < 0))))] [] ?_
 refine TL.known 40 (c := false) (decide_eq_false p_4) rfl ?_
 refine TL.nil (T.cf (T.skip (T.sg ?_)))
 refine TL.rx 3 [(42, (.agg [cI b.f7.f0, cI b.f7.f1, cI b.f7.f2, cS b.f7.f3, .d (.bss b.f7.f4)])), (43, (pI ((((((k + a.f1.cm) + a.f2.cm) + a.f3.cm) + a.f4.cm) + a.f5.cm) + a.f6.cm)))] [] ?_
 have nn7 := SIncl.cm_nn a.f7
 refine TL.c (Step.cz (ok_laws_heldIncl a.f7 b.f7 ((((((k + a.f1.cm) + a.f2.cm) + a.f3.cm) + a.f4.cm) + a.f5.cm) + a.f6.cm) p_4 (by first | omega | (have := SIncl.cm_le (x := a.f7) (by assumption); omega)) p_37)) ?_
 refine TL.rl [(1, (pI (((((((k + a.f1.cm) + a.f2.cm) + a.f3.cm) + a.f4.cm) + a.f5.cm) + a.f6.cm) + a.f7.cm)))] [] ?_
 refine T.seq (T.sg ?_)
 refine TL.rx 2 [(46, (pB (decide ((((((((k + a.f1.cm) + a.f2.cm) + a.f3.cm) + a.f4.cm) + a.f5.cm) + a.f6.cm) + a.f7.cm) < 0))))] [] ?_
 refine TL.known 46 (c := false) (decide_eq_false p_4) rfl ?_
 refine TL.nil (T.cf (T.skip ?_))
 refine T.sr [(4, (pI (((((((k + a.f1.cm) + a.f2.cm) + a.f3.cm) + a.f4.cm) + a.f5.cm) + a.f6.cm) + a.f7.cm)))] [] ?_
 refine T.ret ?_
 refine ⟨_, (.cons rfl .nil), rfl, _, (.r ?_ .nil)⟩ <;> (first | rfl | (congr 1; simp only [SMsg.cm]; omega))
theorem ok_laws_FnExactDecode (aL : SLimits) (aB : List Int) (h0_ : aL.ok) (h1_ : U8s aB) : RO Tryz.prog 3 [.agg aL.cells, .one (.ints .u8 aB)] [(false, [.rd (.bool true)])] := by
 refine RO.intro Tryz.func3 rfl 101 rfl (le_ok rfl) fun w Z => ?_
 refine T.bnd 1 0 rfl rfl fun hb_1_0 => ?_
 simp only [D.size, List.length_map] at hb_1_0
 refine T.sr [(2, (.one (.ptr 2 0))), (4, (pB false))] [(2, (23, (c_59 aL)))] ?_
 refine T.seq (T.sg ?_)
 refine TL.rx 1 [(15, (pS aB))] [] ?_
 refine TL.c (Step.ln 5 1 (.ints .u8 aB)) ?_
 refine TL.rl [(17, (pB (decide (1048576 < (aB.length : Int)))))] [] ?_
 refine T.ci rfl (fun h1 => ?_) (fun h1 => ?_)
 ·refine T.sr [(4, (pB true))] [] ?_
  refine T.ret ?_
  exact ⟨_, (.cons rfl .nil), rfl, _, (.r rfl .nil)⟩
 refine T.skip (T.sg ?_)
 refine TL.rx 1 [(19, (.agg (c_59 aL)))] [] ?_
 refine TL.c (Step.cz (ok_laws_toLimits aL)) ?_
 refine TL.rx 1 [(21, (pS aB))] [] ?_
 refine TL.c (Step.cz (ok_laws_toByteS aB p_121)) ?_
 have nn2 := @decode_sm aL aB p_60
 refine TL.c (Step.cz (ok_spec_Decode aL aB p_3 p_0)) ?_
 refine TL.rl [(5, (.one (.ptr 5 0))), (6, (pI (aa aL aB).2))] [(5, (43, (c_2 aB aL)))] ?_
 refine T.wk [(1, (pS aB)), (2, (.one (.ptr 2 0))), (4, (pB false)), (5, (.one (.ptr 5 0))), (6, (pI (aa aL aB).2))] [(4023, (5, (.ints .u8 (aa aL aB).1.f1.f2))), (6023, (5, (.ints .u8 (aa aL aB).1.f1.f4))), (9023, (5, (.ints .u8 (aa aL aB).1.f2.f2))), (10023, (5, (.ints .u8 (aa aL aB).1.f2.f3))), (11023, (24, (.bss (aa aL aB).1.f2.f4))), (15023, (5, (.ints .u8 (aa aL aB).1.f3.f3))), (16023, (5, (.ints .u8 (aa aL aB).1.f3.f4))), (19023, (5, (.ints .u8 (aa aL aB).1.f3.f5.f2))), (20023, (5, (.ints .u8 (aa aL aB).1.f3.f5.f3))), (21023, (24, (.bss (aa aL aB).1.f3.f5.f4))), (25023, (5, (.ints .u8 (aa aL aB).1.f4.f0.f3))), (26023, (5, (.ints .u8 (aa aL aB).1.f4.f0.f4))), (29023, (5, (.ints .u8 (aa aL aB).1.f4.f0.f5.f2))), (30023, (5, (.ints .u8 (aa aL aB).1.f4.f0.f5.f3))), (31023, (24, (.bss (aa aL aB).1.f4.f0.f5.f4))), (32023, (24, (.bss (aa aL aB).1.f4.f1))), (34023, (111, (.sl 3 ((aa aL aB).1.f5.f1.map SEntry.cells)))), (35023, (31, (.sl 10 ((aa aL aB).1.f6.f0.map SHead.cells)))), (38023, (5, (.ints .u8 (aa aL aB).1.f6.f1.f2))), (39023, (5, (.ints .u8 (aa aL aB).1.f6.f1.f3))), (40023, (24, (.bss (aa aL aB).1.f6.f1.f4))), (44023, (5, (.ints .u8 (aa aL aB).1.f7.f3))), (45023, (24, (.bss (aa aL aB).1.f7.f4)))] [(2, (23, (c_59 aL))), (5, (43, (c_2 aB aL)))] ?_
 refine T.sg ?_
 refine TL.rx 1 [(26, (pS aB))] [] ?_
 refine TL.c (Step.cz (ok_laws_toByteS aB p_121)) ?_
 refine TL.rl [(7, (.one (.row 1027 [])))] [] ?_
 refine T.sg ?_
 refine TL.rx 1 [(29, (.agg (c_59 aL)))] [] ?_
 refine TL.c (Step.cz (ok_laws_toLimits aL)) ?_
 refine TL.rx 1 [(31, (.one (.row 1027 [])))] [] ?_
 have nn3 := @decode_sm aL aB p_60
 refine TL.c (Step.cz (ok_impl_Decode aL aB p_3 p_0)) ?_
 refine TL.rl [(8, (.one (.ptr 8 0))), (9, (pI (aa aL aB).2))] [(8, (43, (c_1 aB aL)))] ?_
 refine T.seq (T.sg ?_)
 refine TL.rx 2 [(35, (.agg (c_1 aB aL))), (36, (.agg (c_2 aB aL)))] [] ?_
 refine TL.c (Step.cz (ok_laws_eqMsg (aa aL aB).1 (aa aL aB).1)) ?_
 refine TL.known 37 (c := true) p_104 rfl ?_
 refine TL.rx 5 [(39, (pB false)), (42, (pB (decide ((aa aL aB).2 ≠ (aa aL aB).2))))] [] ?_
 refine TL.known 42 (c := false) p_104 rfl ?_
 refine TL.rl [(43, (pB false))] [] ?_
 refine T.wk [(1, (pS aB)), (2, (.one (.ptr 2 0))), (4, (pB false)), (5, (.one (.ptr 5 0))), (6, (pI (aa aL aB).2)), (7, (.one (.row 1027 []))), (8, (.one (.ptr 8 0))), (9, (pI (aa aL aB).2)), (43, (pB false))] [(4023, (5, (.ints .u8 (aa aL aB).1.f1.f2))), (6023, (5, (.ints .u8 (aa aL aB).1.f1.f4))), (9023, (5, (.ints .u8 (aa aL aB).1.f2.f2))), (10023, (5, (.ints .u8 (aa aL aB).1.f2.f3))), (11023, (24, (.bss (aa aL aB).1.f2.f4))), (15023, (5, (.ints .u8 (aa aL aB).1.f3.f3))), (16023, (5, (.ints .u8 (aa aL aB).1.f3.f4))), (19023, (5, (.ints .u8 (aa aL aB).1.f3.f5.f2))), (20023, (5, (.ints .u8 (aa aL aB).1.f3.f5.f3))), (21023, (24, (.bss (aa aL aB).1.f3.f5.f4))), (25023, (5, (.ints .u8 (aa aL aB).1.f4.f0.f3))), (26023, (5, (.ints .u8 (aa aL aB).1.f4.f0.f4))), (29023, (5, (.ints .u8 (aa aL aB).1.f4.f0.f5.f2))), (30023, (5, (.ints .u8 (aa aL aB).1.f4.f0.f5.f3))), (31023, (24, (.bss (aa aL aB).1.f4.f0.f5.f4))), (32023, (24, (.bss (aa aL aB).1.f4.f1))), (34023, (111, (.sl 3 ((aa aL aB).1.f5.f1.map SEntry.cells)))), (35023, (31, (.sl 10 ((aa aL aB).1.f6.f0.map SHead.cells)))), (38023, (5, (.ints .u8 (aa aL aB).1.f6.f1.f2))), (39023, (5, (.ints .u8 (aa aL aB).1.f6.f1.f3))), (40023, (24, (.bss (aa aL aB).1.f6.f1.f4))), (44023, (5, (.ints .u8 (aa aL aB).1.f7.f3))), (45023, (24, (.bss (aa aL aB).1.f7.f4))), (1027, (5, (.ints .u8 aB))), (4032, (5, (.ints .u8 (aa aL aB).1.f1.f2))), (6032, (5, (.ints .u8 (aa aL aB).1.f1.f4))), (9032, (5, (.ints .u8 (aa aL aB).1.f2.f2))), (10032, (5, (.ints .u8 (aa aL aB).1.f2.f3))), (11032, (24, (.bss (aa aL aB).1.f2.f4))), (15032, (5, (.ints .u8 (aa aL aB).1.f3.f3))), (16032, (5, (.ints .u8 (aa aL aB).1.f3.f4))), (19032, (5, (.ints .u8 (aa aL aB).1.f3.f5.f2))), (20032, (5, (.ints .u8 (aa aL aB).1.f3.f5.f3))), (21032, (24, (.bss (aa aL aB).1.f3.f5.f4))), (25032, (5, (.ints .u8 (aa aL aB).1.f4.f0.f3))), (26032, (5, (.ints .u8 (aa aL aB).1.f4.f0.f4))), (29032, (5, (.ints .u8 (aa aL aB).1.f4.f0.f5.f2))), (30032, (5, (.ints .u8 (aa aL aB).1.f4.f0.f5.f3))), (31032, (24, (.bss (aa aL aB).1.f4.f0.f5.f4))), (32032, (24, (.bss (aa aL aB).1.f4.f1))), (34032, (111, (.sl 3 ((aa aL aB).1.f5.f1.map SEntry.cells)))), (35032, (31, (.sl 10 ((aa aL aB).1.f6.f0.map SHead.cells)))), (38032, (5, (.ints .u8 (aa aL aB).1.f6.f1.f2))), (39032, (5, (.ints .u8 (aa aL aB).1.f6.f1.f3))), (40032, (24, (.bss (aa aL aB).1.f6.f1.f4))), (44032, (5, (.ints .u8 (aa aL aB).1.f7.f3))), (45032, (24, (.bss (aa aL aB).1.f7.f4)))] [(8, (43, (c_1 aB aL))), (2, (23, (c_59 aL))), (5, (43, (c_2 aB aL)))] ?_
 refine T.cf (T.skip (T.seq (T.sg ?_)))
 refine TL.rx 2 [(44, (.one (.row 1027 []))), (45, (pS aB))] [] ?_
 refine TL.c (Step.cz (ok_laws_toByteS aB p_121)) ?_
 refine TL.c (Step.cz (ok_laws_eqByteS aB aB)) ?_
 refine TL.known 47 (c := true) p_104 rfl ?_
 refine TL.rl [(48, (pB false))] [] ?_
 refine T.cf (T.skip ?_)
 refine T.sr [(10, (pI 1))] [] ?_
 refine T.sg ?_
 refine TL.rx 2 [(49, (.one (.row 1027 []))), (50, (pI 1))] [] ?_
 refine TL.c (Step.callM2 (xs := [.tmp 49, .tmp 50]) (ps := [(.one (.row 1027 [])), (pI 1)]) (js := [(1027, (.ints .u8 (mkB aB 1)))]) (g := .func 11) (ok_laws_markByteS aB 1 p_4 p_57) rfl rfl (lt_ok rfl) rfl p_6 rfl rfl (.row (T := 5) (d := (.ints .u8 aB)) (e' := (.ints .u8 (mkB aB 1))) (d' := (.ints .u8 (mkB aB 1))) rfl rfl rfl rfl rfl p_45 rfl rfl (.d .nil)) rfl) ?_
 refine TL.rl [(10, (pI (1 + (aB.length : Int))))] [] ?_
 refine T.seq (T.sg ?_)
 refine TL.rx 2 [(53, (pB (decide ((1 + (aB.length : Int)) < 0))))] [] ?_
 refine TL.known 53 (c := false) (decide_eq_false p_4) rfl ?_
 refine TL.rx 3 [(54, (pB false)), (55, (.agg (c_1 aB aL))), (56, (.agg (c_2 aB aL)))] [] ?_
 refine TL.gy 54 (Step.cz (ok_laws_eqMsg (aa aL aB).1 (aa aL aB).1)) ?_
 refine TL.known 57 (c := true) p_104 rfl ?_
 refine TL.rx 6 [(60, (pB false)), (63, (pB (decide ((aa aL aB).2 ≠ (aa aL aB).2))))] [] ?_
 refine TL.known 63 (c := false) p_104 rfl ?_
 refine TL.rl [(64, (pB false))] [] ?_
 refine T.wk [(1, (pS aB)), (2, (.one (.ptr 2 0))), (4, (pB false)), (5, (.one (.ptr 5 0))), (6, (pI (aa aL aB).2)), (8, (.one (.ptr 8 0))), (64, (pB false))] [(4023, (5, (.ints .u8 (aa aL aB).1.f1.f2))), (6023, (5, (.ints .u8 (aa aL aB).1.f1.f4))), (9023, (5, (.ints .u8 (aa aL aB).1.f2.f2))), (10023, (5, (.ints .u8 (aa aL aB).1.f2.f3))), (11023, (24, (.bss (aa aL aB).1.f2.f4))), (15023, (5, (.ints .u8 (aa aL aB).1.f3.f3))), (16023, (5, (.ints .u8 (aa aL aB).1.f3.f4))), (19023, (5, (.ints .u8 (aa aL aB).1.f3.f5.f2))), (20023, (5, (.ints .u8 (aa aL aB).1.f3.f5.f3))), (21023, (24, (.bss (aa aL aB).1.f3.f5.f4))), (25023, (5, (.ints .u8 (aa aL aB).1.f4.f0.f3))), (26023, (5, (.ints .u8 (aa aL aB).1.f4.f0.f4))), (29023, (5, (.ints .u8 (aa aL aB).1.f4.f0.f5.f2))), (30023, (5, (.ints .u8 (aa aL aB).1.f4.f0.f5.f3))), (31023, (24, (.bss (aa aL aB).1.f4.f0.f5.f4))), (32023, (24, (.bss (aa aL aB).1.f4.f1))), (34023, (111, (.sl 3 ((aa aL aB).1.f5.f1.map SEntry.cells)))), (35023, (31, (.sl 10 ((aa aL aB).1.f6.f0.map SHead.cells)))), (38023, (5, (.ints .u8 (aa aL aB).1.f6.f1.f2))), (39023, (5, (.ints .u8 (aa aL aB).1.f6.f1.f3))), (40023, (24, (.bss (aa aL aB).1.f6.f1.f4))), (44023, (5, (.ints .u8 (aa aL aB).1.f7.f3))), (45023, (24, (.bss (aa aL aB).1.f7.f4))), (4032, (5, (.ints .u8 (aa aL aB).1.f1.f2))), (6032, (5, (.ints .u8 (aa aL aB).1.f1.f4))), (9032, (5, (.ints .u8 (aa aL aB).1.f2.f2))), (10032, (5, (.ints .u8 (aa aL aB).1.f2.f3))), (11032, (24, (.bss (aa aL aB).1.f2.f4))), (15032, (5, (.ints .u8 (aa aL aB).1.f3.f3))), (16032, (5, (.ints .u8 (aa aL aB).1.f3.f4))), (19032, (5, (.ints .u8 (aa aL aB).1.f3.f5.f2))), (20032, (5, (.ints .u8 (aa aL aB).1.f3.f5.f3))), (21032, (24, (.bss (aa aL aB).1.f3.f5.f4))), (25032, (5, (.ints .u8 (aa aL aB).1.f4.f0.f3))), (26032, (5, (.ints .u8 (aa aL aB).1.f4.f0.f4))), (29032, (5, (.ints .u8 (aa aL aB).1.f4.f0.f5.f2))), (30032, (5, (.ints .u8 (aa aL aB).1.f4.f0.f5.f3))), (31032, (24, (.bss (aa aL aB).1.f4.f0.f5.f4))), (32032, (24, (.bss (aa aL aB).1.f4.f1))), (34032, (111, (.sl 3 ((aa aL aB).1.f5.f1.map SEntry.cells)))), (35032, (31, (.sl 10 ((aa aL aB).1.f6.f0.map SHead.cells)))), (38032, (5, (.ints .u8 (aa aL aB).1.f6.f1.f2))), (39032, (5, (.ints .u8 (aa aL aB).1.f6.f1.f3))), (40032, (24, (.bss (aa aL aB).1.f6.f1.f4))), (44032, (5, (.ints .u8 (aa aL aB).1.f7.f3))), (45032, (24, (.bss (aa aL aB).1.f7.f4)))] [(8, (43, (c_1 aB aL))), (2, (23, (c_59 aL))), (5, (43, (c_2 aB aL)))] ?_
 refine T.cf (T.skip ?_)
 refine T.sr [(11, (pI 1))] [] ?_
 refine T.sg ?_
 refine TL.rx 2 [(65, (.agg (c_1 aB aL))), (66, (pI 1))] [] ?_
 have nn4 := SMsg.cm_nn (aa aL aB).1
 refine TL.c (Step.callM2 (xs := [.tmp 65, .tmp 66]) (ps := [(.agg (c_1 aB aL)), (pI 1)]) (js := [(4032, (.ints .u8 (mkB (aa aL aB).1.f1.f2 1))), (6032, (.ints .u8 (mkB (aa aL aB).1.f1.f4 (1 + ((aa aL aB).1.f1.f2.length : Int))))), (9032, (.ints .u8 (mkB (aa aL aB).1.f2.f2 (1 + (aa aL aB).1.f1.cm)))), (10032, (.ints .u8 (mkB (aa aL aB).1.f2.f3 ((1 + (aa aL aB).1.f1.cm) + ((aa aL aB).1.f2.f2.length : Int))))), (11032, (.bss (mkBs (aa aL aB).1.f2.f4 (((1 + (aa aL aB).1.f1.cm) + ((aa aL aB).1.f2.f2.length : Int)) + ((aa aL aB).1.f2.f3.length : Int))))), (15032, (.ints .u8 (mkB (aa aL aB).1.f3.f3 ((1 + (aa aL aB).1.f1.cm) + (aa aL aB).1.f2.cm)))), (16032, (.ints .u8 (mkB (aa aL aB).1.f3.f4 (((1 + (aa aL aB).1.f1.cm) + (aa aL aB).1.f2.cm) + ((aa aL aB).1.f3.f3.length : Int))))), (19032, (.ints .u8 (mkB (aa aL aB).1.f3.f5.f2 ((((1 + (aa aL aB).1.f1.cm) + (aa aL aB).1.f2.cm) + ((aa aL aB).1.f3.f3.length : Int)) + ((aa aL aB).1.f3.f4.length : Int))))), (20032, (.ints .u8 (mkB (aa aL aB).1.f3.f5.f3 (((((1 + (aa aL aB).1.f1.cm) + (aa aL aB).1.f2.cm) + ((aa aL aB).1.f3.f3.length : Int)) + ((aa aL aB).1.f3.f4.length : Int)) + ((aa aL aB).1.f3.f5.f2.length : Int))))), (21032, (.bss (mkBs (aa aL aB).1.f3.f5.f4 ((((((1 + (aa aL aB).1.f1.cm) + (aa aL aB).1.f2.cm) + ((aa aL aB).1.f3.f3.length : Int)) + ((aa aL aB).1.f3.f4.length : Int)) + ((aa aL aB).1.f3.f5.f2.length : Int)) + ((aa aL aB).1.f3.f5.f3.length : Int))))), (25032, (.ints .u8 (mkB (aa aL aB).1.f4.f0.f3 (((1 + (aa aL aB).1.f1.cm) + (aa aL aB).1.f2.cm) + (aa aL aB).1.f3.cm)))), (26032, (.ints .u8 (mkB (aa aL aB).1.f4.f0.f4 ((((1 + (aa aL aB).1.f1.cm) + (aa aL aB).1.f2.cm) + (aa aL aB).1.f3.cm) + ((aa aL aB).1.f4.f0.f3.length : Int))))), (29032, (.ints .u8 (mkB (aa aL aB).1.f4.f0.f5.f2 (((((1 + (aa aL aB).1.f1.cm) + (aa aL aB).1.f2.cm) + (aa aL aB).1.f3.cm) + ((aa aL aB).1.f4.f0.f3.length : Int)) + ((aa aL aB).1.f4.f0.f4.length : Int))))), (30032, (.ints .u8 (mkB (aa aL aB).1.f4.f0.f5.f3 ((((((1 + (aa aL aB).1.f1.cm) + (aa aL aB).1.f2.cm) + (aa aL aB).1.f3.cm) + ((aa aL aB).1.f4.f0.f3.length : Int)) + ((aa aL aB).1.f4.f0.f4.length : Int)) + ((aa aL aB).1.f4.f0.f5.f2.length : Int))))), (31032, (.bss (mkBs (aa aL aB).1.f4.f0.f5.f4 (((((((1 + (aa aL aB).1.f1.cm) + (aa aL aB).1.f2.cm) + (aa aL aB).1.f3.cm) + ((aa aL aB).1.f4.f0.f3.length : Int)) + ((aa aL aB).1.f4.f0.f4.length : Int)) + ((aa aL aB).1.f4.f0.f5.f2.length : Int)) + ((aa aL aB).1.f4.f0.f5.f3.length : Int))))), (32032, (.bss (mkBs (aa aL aB).1.f4.f1 ((((1 + (aa aL aB).1.f1.cm) + (aa aL aB).1.f2.cm) + (aa aL aB).1.f3.cm) + (aa aL aB).1.f4.f0.cm)))), (34032, (.sl 3 ((mkL SEntry.ce SEntry.me (aa aL aB).1.f5.f1 ((((1 + (aa aL aB).1.f1.cm) + (aa aL aB).1.f2.cm) + (aa aL aB).1.f3.cm) + (aa aL aB).1.f4.cm)).map SEntry.cells))), (35032, (.sl 10 ((mkL SHead.ce SHead.me (aa aL aB).1.f6.f0 (((((1 + (aa aL aB).1.f1.cm) + (aa aL aB).1.f2.cm) + (aa aL aB).1.f3.cm) + (aa aL aB).1.f4.cm) + (aa aL aB).1.f5.cm)).map SHead.cells))), (38032, (.ints .u8 (mkB (aa aL aB).1.f6.f1.f2 ((((((1 + (aa aL aB).1.f1.cm) + (aa aL aB).1.f2.cm) + (aa aL aB).1.f3.cm) + (aa aL aB).1.f4.cm) + (aa aL aB).1.f5.cm) + cntL SHead.ce (aa aL aB).1.f6.f0)))), (39032, (.ints .u8 (mkB (aa aL aB).1.f6.f1.f3 (((((((1 + (aa aL aB).1.f1.cm) + (aa aL aB).1.f2.cm) + (aa aL aB).1.f3.cm) + (aa aL aB).1.f4.cm) + (aa aL aB).1.f5.cm) + cntL SHead.ce (aa aL aB).1.f6.f0) + ((aa aL aB).1.f6.f1.f2.length : Int))))), (40032, (.bss (mkBs (aa aL aB).1.f6.f1.f4 ((((((((1 + (aa aL aB).1.f1.cm) + (aa aL aB).1.f2.cm) + (aa aL aB).1.f3.cm) + (aa aL aB).1.f4.cm) + (aa aL aB).1.f5.cm) + cntL SHead.ce (aa aL aB).1.f6.f0) + ((aa aL aB).1.f6.f1.f2.length : Int)) + ((aa aL aB).1.f6.f1.f3.length : Int))))), (44032, (.ints .u8 (mkB (aa aL aB).1.f7.f3 ((((((1 + (aa aL aB).1.f1.cm) + (aa aL aB).1.f2.cm) + (aa aL aB).1.f3.cm) + (aa aL aB).1.f4.cm) + (aa aL aB).1.f5.cm) + (aa aL aB).1.f6.cm)))), (45032, (.bss (mkBs (aa aL aB).1.f7.f4 (((((((1 + (aa aL aB).1.f1.cm) + (aa aL aB).1.f2.cm) + (aa aL aB).1.f3.cm) + (aa aL aB).1.f4.cm) + (aa aL aB).1.f5.cm) + (aa aL aB).1.f6.cm) + ((aa aL aB).1.f7.f3.length : Int)))))]) (g := .func 12) (ok_laws_markMsg (aa aL aB).1 1 p_4 (by first | omega | (have := SMsg.cm_le (x := (aa aL aB).1) (by assumption); omega))) rfl rfl (lt_ok rfl) rfl p_6 rfl rfl (.d (.d (.d (.row (T := 5) (d := (.ints .u8 (aa aL aB).1.f1.f2)) (e' := (.ints .u8 (mkB (aa aL aB).1.f1.f2 1))) (d' := (.ints .u8 (mkB (aa aL aB).1.f1.f2 1))) rfl rfl rfl rfl rfl p_45 rfl rfl (.d (.row (T := 5) (d := (.ints .u8 (aa aL aB).1.f1.f4)) (e' := (.ints .u8 (mkB (aa aL aB).1.f1.f4 (1 + ((aa aL aB).1.f1.f2.length : Int))))) (d' := (.ints .u8 (mkB (aa aL aB).1.f1.f4 (1 + ((aa aL aB).1.f1.f2.length : Int))))) rfl rfl rfl rfl rfl p_45 rfl rfl (.d (.d (.row (T := 5) (d := (.ints .u8 (aa aL aB).1.f2.f2)) (e' := (.ints .u8 (mkB (aa aL aB).1.f2.f2 (1 + (aa aL aB).1.f1.cm)))) (d' := (.ints .u8 (mkB (aa aL aB).1.f2.f2 (1 + (aa aL aB).1.f1.cm)))) rfl rfl rfl rfl rfl p_45 rfl rfl (.row (T := 5) (d := (.ints .u8 (aa aL aB).1.f2.f3)) (e' := (.ints .u8 (mkB (aa aL aB).1.f2.f3 ((1 + (aa aL aB).1.f1.cm) + ((aa aL aB).1.f2.f2.length : Int))))) (d' := (.ints .u8 (mkB (aa aL aB).1.f2.f3 ((1 + (aa aL aB).1.f1.cm) + ((aa aL aB).1.f2.f2.length : Int))))) rfl rfl rfl rfl rfl p_45 rfl rfl (.row (T := 24) (d := (.bss (aa aL aB).1.f2.f4)) (e' := (.bss (mkBs (aa aL aB).1.f2.f4 (((1 + (aa aL aB).1.f1.cm) + ((aa aL aB).1.f2.f2.length : Int)) + ((aa aL aB).1.f2.f3.length : Int))))) (d' := (.bss (mkBs (aa aL aB).1.f2.f4 (((1 + (aa aL aB).1.f1.cm) + ((aa aL aB).1.f2.f2.length : Int)) + ((aa aL aB).1.f2.f3.length : Int))))) rfl rfl rfl rfl rfl p_45 rfl rfl (.d (.d (.d (.row (T := 5) (d := (.ints .u8 (aa aL aB).1.f3.f3)) (e' := (.ints .u8 (mkB (aa aL aB).1.f3.f3 ((1 + (aa aL aB).1.f1.cm) + (aa aL aB).1.f2.cm)))) (d' := (.ints .u8 (mkB (aa aL aB).1.f3.f3 ((1 + (aa aL aB).1.f1.cm) + (aa aL aB).1.f2.cm)))) rfl rfl rfl rfl rfl p_45 rfl rfl (.row (T := 5) (d := (.ints .u8 (aa aL aB).1.f3.f4)) (e' := (.ints .u8 (mkB (aa aL aB).1.f3.f4 (((1 + (aa aL aB).1.f1.cm) + (aa aL aB).1.f2.cm) + ((aa aL aB).1.f3.f3.length : Int))))) (d' := (.ints .u8 (mkB (aa aL aB).1.f3.f4 (((1 + (aa aL aB).1.f1.cm) + (aa aL aB).1.f2.cm) + ((aa aL aB).1.f3.f3.length : Int))))) rfl rfl rfl rfl rfl p_45 rfl rfl (.d (.d (.row (T := 5) (d := (.ints .u8 (aa aL aB).1.f3.f5.f2)) (e' := (.ints .u8 (mkB (aa aL aB).1.f3.f5.f2 ((((1 + (aa aL aB).1.f1.cm) + (aa aL aB).1.f2.cm) + ((aa aL aB).1.f3.f3.length : Int)) + ((aa aL aB).1.f3.f4.length : Int))))) (d' := (.ints .u8 (mkB (aa aL aB).1.f3.f5.f2 ((((1 + (aa aL aB).1.f1.cm) + (aa aL aB).1.f2.cm) + ((aa aL aB).1.f3.f3.length : Int)) + ((aa aL aB).1.f3.f4.length : Int))))) rfl rfl rfl rfl rfl p_45 rfl rfl (.row (T := 5) (d := (.ints .u8 (aa aL aB).1.f3.f5.f3)) (e' := (.ints .u8 (mkB (aa aL aB).1.f3.f5.f3 (((((1 + (aa aL aB).1.f1.cm) + (aa aL aB).1.f2.cm) + ((aa aL aB).1.f3.f3.length : Int)) + ((aa aL aB).1.f3.f4.length : Int)) + ((aa aL aB).1.f3.f5.f2.length : Int))))) (d' := (.ints .u8 (mkB (aa aL aB).1.f3.f5.f3 (((((1 + (aa aL aB).1.f1.cm) + (aa aL aB).1.f2.cm) + ((aa aL aB).1.f3.f3.length : Int)) + ((aa aL aB).1.f3.f4.length : Int)) + ((aa aL aB).1.f3.f5.f2.length : Int))))) rfl rfl rfl rfl rfl p_45 rfl rfl (.row (T := 24) (d := (.bss (aa aL aB).1.f3.f5.f4)) (e' := (.bss (mkBs (aa aL aB).1.f3.f5.f4 ((((((1 + (aa aL aB).1.f1.cm) + (aa aL aB).1.f2.cm) + ((aa aL aB).1.f3.f3.length : Int)) + ((aa aL aB).1.f3.f4.length : Int)) + ((aa aL aB).1.f3.f5.f2.length : Int)) + ((aa aL aB).1.f3.f5.f3.length : Int))))) (d' := (.bss (mkBs (aa aL aB).1.f3.f5.f4 ((((((1 + (aa aL aB).1.f1.cm) + (aa aL aB).1.f2.cm) + ((aa aL aB).1.f3.f3.length : Int)) + ((aa aL aB).1.f3.f4.length : Int)) + ((aa aL aB).1.f3.f5.f2.length : Int)) + ((aa aL aB).1.f3.f5.f3.length : Int))))) rfl rfl rfl rfl rfl p_45 rfl rfl (.d (.d (.d (.row (T := 5) (d := (.ints .u8 (aa aL aB).1.f4.f0.f3)) (e' := (.ints .u8 (mkB (aa aL aB).1.f4.f0.f3 (((1 + (aa aL aB).1.f1.cm) + (aa aL aB).1.f2.cm) + (aa aL aB).1.f3.cm)))) (d' := (.ints .u8 (mkB (aa aL aB).1.f4.f0.f3 (((1 + (aa aL aB).1.f1.cm) + (aa aL aB).1.f2.cm) + (aa aL aB).1.f3.cm)))) rfl rfl rfl rfl rfl p_45 rfl rfl (.row (T := 5) (d := (.ints .u8 (aa aL aB).1.f4.f0.f4)) (e' := (.ints .u8 (mkB (aa aL aB).1.f4.f0.f4 ((((1 + (aa aL aB).1.f1.cm) + (aa aL aB).1.f2.cm) + (aa aL aB).1.f3.cm) + ((aa aL aB).1.f4.f0.f3.length : Int))))) (d' := (.ints .u8 (mkB (aa aL aB).1.f4.f0.f4 ((((1 + (aa aL aB).1.f1.cm) + (aa aL aB).1.f2.cm) + (aa aL aB).1.f3.cm) + ((aa aL aB).1.f4.f0.f3.length : Int))))) rfl rfl rfl rfl rfl p_45 rfl rfl (.d (.d (.row (T := 5) (d := (.ints .u8 (aa aL aB).1.f4.f0.f5.f2)) (e' := (.ints .u8 (mkB (aa aL aB).1.f4.f0.f5.f2 (((((1 + (aa aL aB).1.f1.cm) + (aa aL aB).1.f2.cm) + (aa aL aB).1.f3.cm) + ((aa aL aB).1.f4.f0.f3.length : Int)) + ((aa aL aB).1.f4.f0.f4.length : Int))))) (d' := (.ints .u8 (mkB (aa aL aB).1.f4.f0.f5.f2 (((((1 + (aa aL aB).1.f1.cm) + (aa aL aB).1.f2.cm) + (aa aL aB).1.f3.cm) + ((aa aL aB).1.f4.f0.f3.length : Int)) + ((aa aL aB).1.f4.f0.f4.length : Int))))) rfl rfl rfl rfl rfl p_45 rfl rfl (.row (T := 5) (d := (.ints .u8 (aa aL aB).1.f4.f0.f5.f3)) (e' := (.ints .u8 (mkB (aa aL aB).1.f4.f0.f5.f3 ((((((1 + (aa aL aB).1.f1.cm) + (aa aL aB).1.f2.cm) + (aa aL aB).1.f3.cm) + ((aa aL aB).1.f4.f0.f3.length : Int)) + ((aa aL aB).1.f4.f0.f4.length : Int)) + ((aa aL aB).1.f4.f0.f5.f2.length : Int))))) (d' := (.ints .u8 (mkB (aa aL aB).1.f4.f0.f5.f3 ((((((1 + (aa aL aB).1.f1.cm) + (aa aL aB).1.f2.cm) + (aa aL aB).1.f3.cm) + ((aa aL aB).1.f4.f0.f3.length : Int)) + ((aa aL aB).1.f4.f0.f4.length : Int)) + ((aa aL aB).1.f4.f0.f5.f2.length : Int))))) rfl rfl rfl rfl rfl p_45 rfl rfl (.row (T := 24) (d := (.bss (aa aL aB).1.f4.f0.f5.f4)) (e' := (.bss (mkBs (aa aL aB).1.f4.f0.f5.f4 (((((((1 + (aa aL aB).1.f1.cm) + (aa aL aB).1.f2.cm) + (aa aL aB).1.f3.cm) + ((aa aL aB).1.f4.f0.f3.length : Int)) + ((aa aL aB).1.f4.f0.f4.length : Int)) + ((aa aL aB).1.f4.f0.f5.f2.length : Int)) + ((aa aL aB).1.f4.f0.f5.f3.length : Int))))) (d' := (.bss (mkBs (aa aL aB).1.f4.f0.f5.f4 (((((((1 + (aa aL aB).1.f1.cm) + (aa aL aB).1.f2.cm) + (aa aL aB).1.f3.cm) + ((aa aL aB).1.f4.f0.f3.length : Int)) + ((aa aL aB).1.f4.f0.f4.length : Int)) + ((aa aL aB).1.f4.f0.f5.f2.length : Int)) + ((aa aL aB).1.f4.f0.f5.f3.length : Int))))) rfl rfl rfl rfl rfl p_45 rfl rfl (.row (T := 24) (d := (.bss (aa aL aB).1.f4.f1)) (e' := (.bss (mkBs (aa aL aB).1.f4.f1 ((((1 + (aa aL aB).1.f1.cm) + (aa aL aB).1.f2.cm) + (aa aL aB).1.f3.cm) + (aa aL aB).1.f4.f0.cm)))) (d' := (.bss (mkBs (aa aL aB).1.f4.f1 ((((1 + (aa aL aB).1.f1.cm) + (aa aL aB).1.f2.cm) + (aa aL aB).1.f3.cm) + (aa aL aB).1.f4.f0.cm)))) rfl rfl rfl rfl rfl p_45 rfl rfl (.d (.row (T := 111) (d := (.sl 3 ((aa aL aB).1.f5.f1.map SEntry.cells))) (e' := (.sl 3 ((mkL SEntry.ce SEntry.me (aa aL aB).1.f5.f1 ((((1 + (aa aL aB).1.f1.cm) + (aa aL aB).1.f2.cm) + (aa aL aB).1.f3.cm) + (aa aL aB).1.f4.cm)).map SEntry.cells))) (d' := (.sl 3 ((mkL SEntry.ce SEntry.me (aa aL aB).1.f5.f1 ((((1 + (aa aL aB).1.f1.cm) + (aa aL aB).1.f2.cm) + (aa aL aB).1.f3.cm) + (aa aL aB).1.f4.cm)).map SEntry.cells))) rfl rfl rfl rfl rfl p_45 rfl rfl (.row (T := 31) (d := (.sl 10 ((aa aL aB).1.f6.f0.map SHead.cells))) (e' := (.sl 10 ((mkL SHead.ce SHead.me (aa aL aB).1.f6.f0 (((((1 + (aa aL aB).1.f1.cm) + (aa aL aB).1.f2.cm) + (aa aL aB).1.f3.cm) + (aa aL aB).1.f4.cm) + (aa aL aB).1.f5.cm)).map SHead.cells))) (d' := (.sl 10 ((mkL SHead.ce SHead.me (aa aL aB).1.f6.f0 (((((1 + (aa aL aB).1.f1.cm) + (aa aL aB).1.f2.cm) + (aa aL aB).1.f3.cm) + (aa aL aB).1.f4.cm) + (aa aL aB).1.f5.cm)).map SHead.cells))) rfl rfl rfl rfl rfl p_45 rfl rfl (.d (.d (.row (T := 5) (d := (.ints .u8 (aa aL aB).1.f6.f1.f2)) (e' := (.ints .u8 (mkB (aa aL aB).1.f6.f1.f2 ((((((1 + (aa aL aB).1.f1.cm) + (aa aL aB).1.f2.cm) + (aa aL aB).1.f3.cm) + (aa aL aB).1.f4.cm) + (aa aL aB).1.f5.cm) + cntL SHead.ce (aa aL aB).1.f6.f0)))) (d' := (.ints .u8 (mkB (aa aL aB).1.f6.f1.f2 ((((((1 + (aa aL aB).1.f1.cm) + (aa aL aB).1.f2.cm) + (aa aL aB).1.f3.cm) + (aa aL aB).1.f4.cm) + (aa aL aB).1.f5.cm) + cntL SHead.ce (aa aL aB).1.f6.f0)))) rfl rfl rfl rfl rfl p_45 rfl rfl (.row (T := 5) (d := (.ints .u8 (aa aL aB).1.f6.f1.f3)) (e' := (.ints .u8 (mkB (aa aL aB).1.f6.f1.f3 (((((((1 + (aa aL aB).1.f1.cm) + (aa aL aB).1.f2.cm) + (aa aL aB).1.f3.cm) + (aa aL aB).1.f4.cm) + (aa aL aB).1.f5.cm) + cntL SHead.ce (aa aL aB).1.f6.f0) + ((aa aL aB).1.f6.f1.f2.length : Int))))) (d' := (.ints .u8 (mkB (aa aL aB).1.f6.f1.f3 (((((((1 + (aa aL aB).1.f1.cm) + (aa aL aB).1.f2.cm) + (aa aL aB).1.f3.cm) + (aa aL aB).1.f4.cm) + (aa aL aB).1.f5.cm) + cntL SHead.ce (aa aL aB).1.f6.f0) + ((aa aL aB).1.f6.f1.f2.length : Int))))) rfl rfl rfl rfl rfl p_45 rfl rfl (.row (T := 24) (d := (.bss (aa aL aB).1.f6.f1.f4)) (e' := (.bss (mkBs (aa aL aB).1.f6.f1.f4 ((((((((1 + (aa aL aB).1.f1.cm) + (aa aL aB).1.f2.cm) + (aa aL aB).1.f3.cm) + (aa aL aB).1.f4.cm) + (aa aL aB).1.f5.cm) + cntL SHead.ce (aa aL aB).1.f6.f0) + ((aa aL aB).1.f6.f1.f2.length : Int)) + ((aa aL aB).1.f6.f1.f3.length : Int))))) (d' := (.bss (mkBs (aa aL aB).1.f6.f1.f4 ((((((((1 + (aa aL aB).1.f1.cm) + (aa aL aB).1.f2.cm) + (aa aL aB).1.f3.cm) + (aa aL aB).1.f4.cm) + (aa aL aB).1.f5.cm) + cntL SHead.ce (aa aL aB).1.f6.f0) + ((aa aL aB).1.f6.f1.f2.length : Int)) + ((aa aL aB).1.f6.f1.f3.length : Int))))) rfl rfl rfl rfl rfl p_45 rfl rfl (.d (.d (.d (.row (T := 5) (d := (.ints .u8 (aa aL aB).1.f7.f3)) (e' := (.ints .u8 (mkB (aa aL aB).1.f7.f3 ((((((1 + (aa aL aB).1.f1.cm) + (aa aL aB).1.f2.cm) + (aa aL aB).1.f3.cm) + (aa aL aB).1.f4.cm) + (aa aL aB).1.f5.cm) + (aa aL aB).1.f6.cm)))) (d' := (.ints .u8 (mkB (aa aL aB).1.f7.f3 ((((((1 + (aa aL aB).1.f1.cm) + (aa aL aB).1.f2.cm) + (aa aL aB).1.f3.cm) + (aa aL aB).1.f4.cm) + (aa aL aB).1.f5.cm) + (aa aL aB).1.f6.cm)))) rfl rfl rfl rfl rfl p_45 rfl rfl (.row (T := 24) (d := (.bss (aa aL aB).1.f7.f4)) (e' := (.bss (mkBs (aa aL aB).1.f7.f4 (((((((1 + (aa aL aB).1.f1.cm) + (aa aL aB).1.f2.cm) + (aa aL aB).1.f3.cm) + (aa aL aB).1.f4.cm) + (aa aL aB).1.f5.cm) + (aa aL aB).1.f6.cm) + ((aa aL aB).1.f7.f3.length : Int))))) (d' := (.bss (mkBs (aa aL aB).1.f7.f4 (((((((1 + (aa aL aB).1.f1.cm) + (aa aL aB).1.f2.cm) + (aa aL aB).1.f3.cm) + (aa aL aB).1.f4.cm) + (aa aL aB).1.f5.cm) + (aa aL aB).1.f6.cm) + ((aa aL aB).1.f7.f3.length : Int))))) rfl rfl rfl rfl rfl p_45 rfl rfl (.d .nil)))))))))))))))))))))))))))))))))))))))))))))) rfl) ?_
 refine TL.rl [(11, (pI (1 + (aa aL aB).1.cm)))] [] ?_
 refine T.sr [(12, (pI 1))] [] ?_
 refine T.sg ?_
 refine TL.rx 2 [(68, (.agg (c_1 aB aL))), (69, (pI 1))] [] ?_
 have nn5 := SMsg.cm_nn (aa aL aB).1
 refine TL.c (Step.cz (ok_laws_heldMsg (aa aL aB).1 (⟨(aa aL aB).1.f0, (⟨(aa aL aB).1.f1.f0, (aa aL aB).1.f1.f1, mkB (aa aL aB).1.f1.f2 1, (aa aL aB).1.f1.f3, mkB (aa aL aB).1.f1.f4 (1 + ((aa aL aB).1.f1.f2.length : Int))⟩ : SVote), (⟨(aa aL aB).1.f2.f0, (aa aL aB).1.f2.f1, mkB (aa aL aB).1.f2.f2 (1 + (aa aL aB).1.f1.cm), mkB (aa aL aB).1.f2.f3 ((1 + (aa aL aB).1.f1.cm) + ((aa aL aB).1.f2.f2.length : Int)), mkBs (aa aL aB).1.f2.f4 (((1 + (aa aL aB).1.f1.cm) + ((aa aL aB).1.f2.f2.length : Int)) + ((aa aL aB).1.f2.f3.length : Int))⟩ : SQc), (⟨(aa aL aB).1.f3.f0, (aa aL aB).1.f3.f1, (aa aL aB).1.f3.f2, mkB (aa aL aB).1.f3.f3 ((1 + (aa aL aB).1.f1.cm) + (aa aL aB).1.f2.cm), mkB (aa aL aB).1.f3.f4 (((1 + (aa aL aB).1.f1.cm) + (aa aL aB).1.f2.cm) + ((aa aL aB).1.f3.f3.length : Int)), (⟨(aa aL aB).1.f3.f5.f0, (aa aL aB).1.f3.f5.f1, mkB (aa aL aB).1.f3.f5.f2 ((((1 + (aa aL aB).1.f1.cm) + (aa aL aB).1.f2.cm) + ((aa aL aB).1.f3.f3.length : Int)) + ((aa aL aB).1.f3.f4.length : Int)), mkB (aa aL aB).1.f3.f5.f3 (((((1 + (aa aL aB).1.f1.cm) + (aa aL aB).1.f2.cm) + ((aa aL aB).1.f3.f3.length : Int)) + ((aa aL aB).1.f3.f4.length : Int)) + ((aa aL aB).1.f3.f5.f2.length : Int)), mkBs (aa aL aB).1.f3.f5.f4 ((((((1 + (aa aL aB).1.f1.cm) + (aa aL aB).1.f2.cm) + ((aa aL aB).1.f3.f3.length : Int)) + ((aa aL aB).1.f3.f4.length : Int)) + ((aa aL aB).1.f3.f5.f2.length : Int)) + ((aa aL aB).1.f3.f5.f3.length : Int))⟩ : SQc)⟩ : SHead), (⟨(⟨(aa aL aB).1.f4.f0.f0, (aa aL aB).1.f4.f0.f1, (aa aL aB).1.f4.f0.f2, mkB (aa aL aB).1.f4.f0.f3 (((1 + (aa aL aB).1.f1.cm) + (aa aL aB).1.f2.cm) + (aa aL aB).1.f3.cm), mkB (aa aL aB).1.f4.f0.f4 ((((1 + (aa aL aB).1.f1.cm) + (aa aL aB).1.f2.cm) + (aa aL aB).1.f3.cm) + ((aa aL aB).1.f4.f0.f3.length : Int)), (⟨(aa aL aB).1.f4.f0.f5.f0, (aa aL aB).1.f4.f0.f5.f1, mkB (aa aL aB).1.f4.f0.f5.f2 (((((1 + (aa aL aB).1.f1.cm) + (aa aL aB).1.f2.cm) + (aa aL aB).1.f3.cm) + ((aa aL aB).1.f4.f0.f3.length : Int)) + ((aa aL aB).1.f4.f0.f4.length : Int)), mkB (aa aL aB).1.f4.f0.f5.f3 ((((((1 + (aa aL aB).1.f1.cm) + (aa aL aB).1.f2.cm) + (aa aL aB).1.f3.cm) + ((aa aL aB).1.f4.f0.f3.length : Int)) + ((aa aL aB).1.f4.f0.f4.length : Int)) + ((aa aL aB).1.f4.f0.f5.f2.length : Int)), mkBs (aa aL aB).1.f4.f0.f5.f4 (((((((1 + (aa aL aB).1.f1.cm) + (aa aL aB).1.f2.cm) + (aa aL aB).1.f3.cm) + ((aa aL aB).1.f4.f0.f3.length : Int)) + ((aa aL aB).1.f4.f0.f4.length : Int)) + ((aa aL aB).1.f4.f0.f5.f2.length : Int)) + ((aa aL aB).1.f4.f0.f5.f3.length : Int))⟩ : SQc)⟩ : SHead), mkBs (aa aL aB).1.f4.f1 ((((1 + (aa aL aB).1.f1.cm) + (aa aL aB).1.f2.cm) + (aa aL aB).1.f3.cm) + (aa aL aB).1.f4.f0.cm)⟩ : SBlock), (⟨(aa aL aB).1.f5.f0, mkL SEntry.ce SEntry.me (aa aL aB).1.f5.f1 ((((1 + (aa aL aB).1.f1.cm) + (aa aL aB).1.f2.cm) + (aa aL aB).1.f3.cm) + (aa aL aB).1.f4.cm)⟩ : STc), (⟨mkL SHead.ce SHead.me (aa aL aB).1.f6.f0 (((((1 + (aa aL aB).1.f1.cm) + (aa aL aB).1.f2.cm) + (aa aL aB).1.f3.cm) + (aa aL aB).1.f4.cm) + (aa aL aB).1.f5.cm), (⟨(aa aL aB).1.f6.f1.f0, (aa aL aB).1.f6.f1.f1, mkB (aa aL aB).1.f6.f1.f2 ((((((1 + (aa aL aB).1.f1.cm) + (aa aL aB).1.f2.cm) + (aa aL aB).1.f3.cm) + (aa aL aB).1.f4.cm) + (aa aL aB).1.f5.cm) + cntL SHead.ce (aa aL aB).1.f6.f0), mkB (aa aL aB).1.f6.f1.f3 (((((((1 + (aa aL aB).1.f1.cm) + (aa aL aB).1.f2.cm) + (aa aL aB).1.f3.cm) + (aa aL aB).1.f4.cm) + (aa aL aB).1.f5.cm) + cntL SHead.ce (aa aL aB).1.f6.f0) + ((aa aL aB).1.f6.f1.f2.length : Int)), mkBs (aa aL aB).1.f6.f1.f4 ((((((((1 + (aa aL aB).1.f1.cm) + (aa aL aB).1.f2.cm) + (aa aL aB).1.f3.cm) + (aa aL aB).1.f4.cm) + (aa aL aB).1.f5.cm) + cntL SHead.ce (aa aL aB).1.f6.f0) + ((aa aL aB).1.f6.f1.f2.length : Int)) + ((aa aL aB).1.f6.f1.f3.length : Int))⟩ : SQc)⟩ : SProof), (⟨(aa aL aB).1.f7.f0, (aa aL aB).1.f7.f1, (aa aL aB).1.f7.f2, mkB (aa aL aB).1.f7.f3 ((((((1 + (aa aL aB).1.f1.cm) + (aa aL aB).1.f2.cm) + (aa aL aB).1.f3.cm) + (aa aL aB).1.f4.cm) + (aa aL aB).1.f5.cm) + (aa aL aB).1.f6.cm), mkBs (aa aL aB).1.f7.f4 (((((((1 + (aa aL aB).1.f1.cm) + (aa aL aB).1.f2.cm) + (aa aL aB).1.f3.cm) + (aa aL aB).1.f4.cm) + (aa aL aB).1.f5.cm) + (aa aL aB).1.f6.cm) + ((aa aL aB).1.f7.f3.length : Int))⟩ : SIncl)⟩ : SMsg) 1 p_4 (by first | omega | (have := SMsg.cm_le (x := (aa aL aB).1) (by assumption); omega)) p_37)) ?_
 refine TL.rl [(12, (pI (1 + (aa aL aB).1.cm)))] [] ?_
 refine T.wk [(1, (pS aB)), (2, (.one (.ptr 2 0))), (4, (pB false)), (5, (.one (.ptr 5 0))), (6, (pI (aa aL aB).2)), (8, (.one (.ptr 8 0))), (11, (pI (1 + (aa aL aB).1.cm))), (12, (pI (1 + (aa aL aB).1.cm)))] [(4023, (5, (.ints .u8 (aa aL aB).1.f1.f2))), (6023, (5, (.ints .u8 (aa aL aB).1.f1.f4))), (9023, (5, (.ints .u8 (aa aL aB).1.f2.f2))), (10023, (5, (.ints .u8 (aa aL aB).1.f2.f3))), (11023, (24, (.bss (aa aL aB).1.f2.f4))), (15023, (5, (.ints .u8 (aa aL aB).1.f3.f3))), (16023, (5, (.ints .u8 (aa aL aB).1.f3.f4))), (19023, (5, (.ints .u8 (aa aL aB).1.f3.f5.f2))), (20023, (5, (.ints .u8 (aa aL aB).1.f3.f5.f3))), (21023, (24, (.bss (aa aL aB).1.f3.f5.f4))), (25023, (5, (.ints .u8 (aa aL aB).1.f4.f0.f3))), (26023, (5, (.ints .u8 (aa aL aB).1.f4.f0.f4))), (29023, (5, (.ints .u8 (aa aL aB).1.f4.f0.f5.f2))), (30023, (5, (.ints .u8 (aa aL aB).1.f4.f0.f5.f3))), (31023, (24, (.bss (aa aL aB).1.f4.f0.f5.f4))), (32023, (24, (.bss (aa aL aB).1.f4.f1))), (34023, (111, (.sl 3 ((aa aL aB).1.f5.f1.map SEntry.cells)))), (35023, (31, (.sl 10 ((aa aL aB).1.f6.f0.map SHead.cells)))), (38023, (5, (.ints .u8 (aa aL aB).1.f6.f1.f2))), (39023, (5, (.ints .u8 (aa aL aB).1.f6.f1.f3))), (40023, (24, (.bss (aa aL aB).1.f6.f1.f4))), (44023, (5, (.ints .u8 (aa aL aB).1.f7.f3))), (45023, (24, (.bss (aa aL aB).1.f7.f4))), (4032, (5, (.ints .u8 (mkB (aa aL aB).1.f1.f2 1)))), (6032, (5, (.ints .u8 (mkB (aa aL aB).1.f1.f4 (1 + ((aa aL aB).1.f1.f2.length : Int)))))), (9032, (5, (.ints .u8 (mkB (aa aL aB).1.f2.f2 (1 + (aa aL aB).1.f1.cm))))), (10032, (5, (.ints .u8 (mkB (aa aL aB).1.f2.f3 ((1 + (aa aL aB).1.f1.cm) + ((aa aL aB).1.f2.f2.length : Int)))))), (11032, (24, (.bss (mkBs (aa aL aB).1.f2.f4 (((1 + (aa aL aB).1.f1.cm) + ((aa aL aB).1.f2.f2.length : Int)) + ((aa aL aB).1.f2.f3.length : Int)))))), (15032, (5, (.ints .u8 (mkB (aa aL aB).1.f3.f3 ((1 + (aa aL aB).1.f1.cm) + (aa aL aB).1.f2.cm))))), (16032, (5, (.ints .u8 (mkB (aa aL aB).1.f3.f4 (((1 + (aa aL aB).1.f1.cm) + (aa aL aB).1.f2.cm) + ((aa aL aB).1.f3.f3.length : Int)))))), (19032, (5, (.ints .u8 (mkB (aa aL aB).1.f3.f5.f2 ((((1 + (aa aL aB).1.f1.cm) + (aa aL aB).1.f2.cm) + ((aa aL aB).1.f3.f3.length : Int)) + ((aa aL aB).1.f3.f4.length : Int)))))), (20032, (5, (.ints .u8 (mkB (aa aL aB).1.f3.f5.f3 (((((1 + (aa aL aB).1.f1.cm) + (aa aL aB).1.f2.cm) + ((aa aL aB).1.f3.f3.length : Int)) + ((aa aL aB).1.f3.f4.length : Int)) + ((aa aL aB).1.f3.f5.f2.length : Int)))))), (21032, (24, (.bss (mkBs (aa aL aB).1.f3.f5.f4 ((((((1 + (aa aL aB).1.f1.cm) + (aa aL aB).1.f2.cm) + ((aa aL aB).1.f3.f3.length : Int)) + ((aa aL aB).1.f3.f4.length : Int)) + ((aa aL aB).1.f3.f5.f2.length : Int)) + ((aa aL aB).1.f3.f5.f3.length : Int)))))), (25032, (5, (.ints .u8 (mkB (aa aL aB).1.f4.f0.f3 (((1 + (aa aL aB).1.f1.cm) + (aa aL aB).1.f2.cm) + (aa aL aB).1.f3.cm))))), (26032, (5, (.ints .u8 (mkB (aa aL aB).1.f4.f0.f4 ((((1 + (aa aL aB).1.f1.cm) + (aa aL aB).1.f2.cm) + (aa aL aB).1.f3.cm) + ((aa aL aB).1.f4.f0.f3.length : Int)))))), (29032, (5, (.ints .u8 (mkB (aa aL aB).1.f4.f0.f5.f2 (((((1 + (aa aL aB).1.f1.cm) + (aa aL aB).1.f2.cm) + (aa aL aB).1.f3.cm) + ((aa aL aB).1.f4.f0.f3.length : Int)) + ((aa aL aB).1.f4.f0.f4.length : Int)))))), (30032, (5, (.ints .u8 (mkB (aa aL aB).1.f4.f0.f5.f3 ((((((1 + (aa aL aB).1.f1.cm) + (aa aL aB).1.f2.cm) + (aa aL aB).1.f3.cm) + ((aa aL aB).1.f4.f0.f3.length : Int)) + ((aa aL aB).1.f4.f0.f4.length : Int)) + ((aa aL aB).1.f4.f0.f5.f2.length : Int)))))), (31032, (24, (.bss (mkBs (aa aL aB).1.f4.f0.f5.f4 (((((((1 + (aa aL aB).1.f1.cm) + (aa aL aB).1.f2.cm) + (aa aL aB).1.f3.cm) + ((aa aL aB).1.f4.f0.f3.length : Int)) + ((aa aL aB).1.f4.f0.f4.length : Int)) + ((aa aL aB).1.f4.f0.f5.f2.length : Int)) + ((aa aL aB).1.f4.f0.f5.f3.length : Int)))))), (32032, (24, (.bss (mkBs (aa aL aB).1.f4.f1 ((((1 + (aa aL aB).1.f1.cm) + (aa aL aB).1.f2.cm) + (aa aL aB).1.f3.cm) + (aa aL aB).1.f4.f0.cm))))), (34032, (111, (.sl 3 ((mkL SEntry.ce SEntry.me (aa aL aB).1.f5.f1 ((((1 + (aa aL aB).1.f1.cm) + (aa aL aB).1.f2.cm) + (aa aL aB).1.f3.cm) + (aa aL aB).1.f4.cm)).map SEntry.cells)))), (35032, (31, (.sl 10 ((mkL SHead.ce SHead.me (aa aL aB).1.f6.f0 (((((1 + (aa aL aB).1.f1.cm) + (aa aL aB).1.f2.cm) + (aa aL aB).1.f3.cm) + (aa aL aB).1.f4.cm) + (aa aL aB).1.f5.cm)).map SHead.cells)))), (38032, (5, (.ints .u8 (mkB (aa aL aB).1.f6.f1.f2 ((((((1 + (aa aL aB).1.f1.cm) + (aa aL aB).1.f2.cm) + (aa aL aB).1.f3.cm) + (aa aL aB).1.f4.cm) + (aa aL aB).1.f5.cm) + cntL SHead.ce (aa aL aB).1.f6.f0))))), (39032, (5, (.ints .u8 (mkB (aa aL aB).1.f6.f1.f3 (((((((1 + (aa aL aB).1.f1.cm) + (aa aL aB).1.f2.cm) + (aa aL aB).1.f3.cm) + (aa aL aB).1.f4.cm) + (aa aL aB).1.f5.cm) + cntL SHead.ce (aa aL aB).1.f6.f0) + ((aa aL aB).1.f6.f1.f2.length : Int)))))), (40032, (24, (.bss (mkBs (aa aL aB).1.f6.f1.f4 ((((((((1 + (aa aL aB).1.f1.cm) + (aa aL aB).1.f2.cm) + (aa aL aB).1.f3.cm) + (aa aL aB).1.f4.cm) + (aa aL aB).1.f5.cm) + cntL SHead.ce (aa aL aB).1.f6.f0) + ((aa aL aB).1.f6.f1.f2.length : Int)) + ((aa aL aB).1.f6.f1.f3.length : Int)))))), (44032, (5, (.ints .u8 (mkB (aa aL aB).1.f7.f3 ((((((1 + (aa aL aB).1.f1.cm) + (aa aL aB).1.f2.cm) + (aa aL aB).1.f3.cm) + (aa aL aB).1.f4.cm) + (aa aL aB).1.f5.cm) + (aa aL aB).1.f6.cm))))), (45032, (24, (.bss (mkBs (aa aL aB).1.f7.f4 (((((((1 + (aa aL aB).1.f1.cm) + (aa aL aB).1.f2.cm) + (aa aL aB).1.f3.cm) + (aa aL aB).1.f4.cm) + (aa aL aB).1.f5.cm) + (aa aL aB).1.f6.cm) + ((aa aL aB).1.f7.f3.length : Int))))))] [(8, (43, (c_1 aB aL))), (2, (23, (c_59 aL))), (5, (43, (c_2 aB aL)))] ?_
 refine T.seq (T.sg ?_)
 refine TL.rx 2 [(72, (pB (decide ((1 + (aa aL aB).1.cm) < 0))))] [] ?_
 refine TL.known 72 (c := false) (decide_eq_false p_4) rfl ?_
 refine TL.nil (T.cf (T.skip (T.seq (T.sg ?_))))
 refine TL.rx 3 [(75, (pB (decide ((1 + (aa aL aB).1.cm) ≠ (1 + (aa aL aB).1.cm)))))] [] ?_
 refine TL.known 75 (c := false) p_104 rfl ?_
 refine TL.nil (T.cf (T.skip (T.sg ?_)))
 refine TL.rx 1 [(77, (.agg (c_59 aL)))] [] ?_
 refine TL.c (Step.cz (ok_laws_toLimits aL)) ?_
 refine TL.rx 1 [(79, (pS aB))] [] ?_
 refine TL.c (Step.cz (ok_laws_toByteS aB p_121)) ?_
 have nn6 := @decode_sm aL aB p_60
 refine TL.c (Step.cz (ok_impl_Decode aL aB p_3 p_0)) ?_
 refine TL.rl [(13, (.one (.ptr 13 0))), (14, (pI (aa aL aB).2))] [(13, (43, (c_6 aB aL)))] ?_
 refine T.wk [(4, (pB false)), (5, (.one (.ptr 5 0))), (6, (pI (aa aL aB).2)), (8, (.one (.ptr 8 0))), (11, (pI (1 + (aa aL aB).1.cm))), (12, (pI (1 + (aa aL aB).1.cm))), (13, (.one (.ptr 13 0))), (14, (pI (aa aL aB).2))] [(4023, (5, (.ints .u8 (aa aL aB).1.f1.f2))), (6023, (5, (.ints .u8 (aa aL aB).1.f1.f4))), (9023, (5, (.ints .u8 (aa aL aB).1.f2.f2))), (10023, (5, (.ints .u8 (aa aL aB).1.f2.f3))), (11023, (24, (.bss (aa aL aB).1.f2.f4))), (15023, (5, (.ints .u8 (aa aL aB).1.f3.f3))), (16023, (5, (.ints .u8 (aa aL aB).1.f3.f4))), (19023, (5, (.ints .u8 (aa aL aB).1.f3.f5.f2))), (20023, (5, (.ints .u8 (aa aL aB).1.f3.f5.f3))), (21023, (24, (.bss (aa aL aB).1.f3.f5.f4))), (25023, (5, (.ints .u8 (aa aL aB).1.f4.f0.f3))), (26023, (5, (.ints .u8 (aa aL aB).1.f4.f0.f4))), (29023, (5, (.ints .u8 (aa aL aB).1.f4.f0.f5.f2))), (30023, (5, (.ints .u8 (aa aL aB).1.f4.f0.f5.f3))), (31023, (24, (.bss (aa aL aB).1.f4.f0.f5.f4))), (32023, (24, (.bss (aa aL aB).1.f4.f1))), (34023, (111, (.sl 3 ((aa aL aB).1.f5.f1.map SEntry.cells)))), (35023, (31, (.sl 10 ((aa aL aB).1.f6.f0.map SHead.cells)))), (38023, (5, (.ints .u8 (aa aL aB).1.f6.f1.f2))), (39023, (5, (.ints .u8 (aa aL aB).1.f6.f1.f3))), (40023, (24, (.bss (aa aL aB).1.f6.f1.f4))), (44023, (5, (.ints .u8 (aa aL aB).1.f7.f3))), (45023, (24, (.bss (aa aL aB).1.f7.f4))), (4032, (5, (.ints .u8 (mkB (aa aL aB).1.f1.f2 1)))), (6032, (5, (.ints .u8 (mkB (aa aL aB).1.f1.f4 (1 + ((aa aL aB).1.f1.f2.length : Int)))))), (9032, (5, (.ints .u8 (mkB (aa aL aB).1.f2.f2 (1 + (aa aL aB).1.f1.cm))))), (10032, (5, (.ints .u8 (mkB (aa aL aB).1.f2.f3 ((1 + (aa aL aB).1.f1.cm) + ((aa aL aB).1.f2.f2.length : Int)))))), (11032, (24, (.bss (mkBs (aa aL aB).1.f2.f4 (((1 + (aa aL aB).1.f1.cm) + ((aa aL aB).1.f2.f2.length : Int)) + ((aa aL aB).1.f2.f3.length : Int)))))), (15032, (5, (.ints .u8 (mkB (aa aL aB).1.f3.f3 ((1 + (aa aL aB).1.f1.cm) + (aa aL aB).1.f2.cm))))), (16032, (5, (.ints .u8 (mkB (aa aL aB).1.f3.f4 (((1 + (aa aL aB).1.f1.cm) + (aa aL aB).1.f2.cm) + ((aa aL aB).1.f3.f3.length : Int)))))), (19032, (5, (.ints .u8 (mkB (aa aL aB).1.f3.f5.f2 ((((1 + (aa aL aB).1.f1.cm) + (aa aL aB).1.f2.cm) + ((aa aL aB).1.f3.f3.length : Int)) + ((aa aL aB).1.f3.f4.length : Int)))))), (20032, (5, (.ints .u8 (mkB (aa aL aB).1.f3.f5.f3 (((((1 + (aa aL aB).1.f1.cm) + (aa aL aB).1.f2.cm) + ((aa aL aB).1.f3.f3.length : Int)) + ((aa aL aB).1.f3.f4.length : Int)) + ((aa aL aB).1.f3.f5.f2.length : Int)))))), (21032, (24, (.bss (mkBs (aa aL aB).1.f3.f5.f4 ((((((1 + (aa aL aB).1.f1.cm) + (aa aL aB).1.f2.cm) + ((aa aL aB).1.f3.f3.length : Int)) + ((aa aL aB).1.f3.f4.length : Int)) + ((aa aL aB).1.f3.f5.f2.length : Int)) + ((aa aL aB).1.f3.f5.f3.length : Int)))))), (25032, (5, (.ints .u8 (mkB (aa aL aB).1.f4.f0.f3 (((1 + (aa aL aB).1.f1.cm) + (aa aL aB).1.f2.cm) + (aa aL aB).1.f3.cm))))), (26032, (5, (.ints .u8 (mkB (aa aL aB).1.f4.f0.f4 ((((1 + (aa aL aB).1.f1.cm) + (aa aL aB).1.f2.cm) + (aa aL aB).1.f3.cm) + ((aa aL aB).1.f4.f0.f3.length : Int)))))), (29032, (5, (.ints .u8 (mkB (aa aL aB).1.f4.f0.f5.f2 (((((1 + (aa aL aB).1.f1.cm) + (aa aL aB).1.f2.cm) + (aa aL aB).1.f3.cm) + ((aa aL aB).1.f4.f0.f3.length : Int)) + ((aa aL aB).1.f4.f0.f4.length : Int)))))), (30032, (5, (.ints .u8 (mkB (aa aL aB).1.f4.f0.f5.f3 ((((((1 + (aa aL aB).1.f1.cm) + (aa aL aB).1.f2.cm) + (aa aL aB).1.f3.cm) + ((aa aL aB).1.f4.f0.f3.length : Int)) + ((aa aL aB).1.f4.f0.f4.length : Int)) + ((aa aL aB).1.f4.f0.f5.f2.length : Int)))))), (31032, (24, (.bss (mkBs (aa aL aB).1.f4.f0.f5.f4 (((((((1 + (aa aL aB).1.f1.cm) + (aa aL aB).1.f2.cm) + (aa aL aB).1.f3.cm) + ((aa aL aB).1.f4.f0.f3.length : Int)) + ((aa aL aB).1.f4.f0.f4.length : Int)) + ((aa aL aB).1.f4.f0.f5.f2.length : Int)) + ((aa aL aB).1.f4.f0.f5.f3.length : Int)))))), (32032, (24, (.bss (mkBs (aa aL aB).1.f4.f1 ((((1 + (aa aL aB).1.f1.cm) + (aa aL aB).1.f2.cm) + (aa aL aB).1.f3.cm) + (aa aL aB).1.f4.f0.cm))))), (34032, (111, (.sl 3 ((mkL SEntry.ce SEntry.me (aa aL aB).1.f5.f1 ((((1 + (aa aL aB).1.f1.cm) + (aa aL aB).1.f2.cm) + (aa aL aB).1.f3.cm) + (aa aL aB).1.f4.cm)).map SEntry.cells)))), (35032, (31, (.sl 10 ((mkL SHead.ce SHead.me (aa aL aB).1.f6.f0 (((((1 + (aa aL aB).1.f1.cm) + (aa aL aB).1.f2.cm) + (aa aL aB).1.f3.cm) + (aa aL aB).1.f4.cm) + (aa aL aB).1.f5.cm)).map SHead.cells)))), (38032, (5, (.ints .u8 (mkB (aa aL aB).1.f6.f1.f2 ((((((1 + (aa aL aB).1.f1.cm) + (aa aL aB).1.f2.cm) + (aa aL aB).1.f3.cm) + (aa aL aB).1.f4.cm) + (aa aL aB).1.f5.cm) + cntL SHead.ce (aa aL aB).1.f6.f0))))), (39032, (5, (.ints .u8 (mkB (aa aL aB).1.f6.f1.f3 (((((((1 + (aa aL aB).1.f1.cm) + (aa aL aB).1.f2.cm) + (aa aL aB).1.f3.cm) + (aa aL aB).1.f4.cm) + (aa aL aB).1.f5.cm) + cntL SHead.ce (aa aL aB).1.f6.f0) + ((aa aL aB).1.f6.f1.f2.length : Int)))))), (40032, (24, (.bss (mkBs (aa aL aB).1.f6.f1.f4 ((((((((1 + (aa aL aB).1.f1.cm) + (aa aL aB).1.f2.cm) + (aa aL aB).1.f3.cm) + (aa aL aB).1.f4.cm) + (aa aL aB).1.f5.cm) + cntL SHead.ce (aa aL aB).1.f6.f0) + ((aa aL aB).1.f6.f1.f2.length : Int)) + ((aa aL aB).1.f6.f1.f3.length : Int)))))), (44032, (5, (.ints .u8 (mkB (aa aL aB).1.f7.f3 ((((((1 + (aa aL aB).1.f1.cm) + (aa aL aB).1.f2.cm) + (aa aL aB).1.f3.cm) + (aa aL aB).1.f4.cm) + (aa aL aB).1.f5.cm) + (aa aL aB).1.f6.cm))))), (45032, (24, (.bss (mkBs (aa aL aB).1.f7.f4 (((((((1 + (aa aL aB).1.f1.cm) + (aa aL aB).1.f2.cm) + (aa aL aB).1.f3.cm) + (aa aL aB).1.f4.cm) + (aa aL aB).1.f5.cm) + (aa aL aB).1.f6.cm) + ((aa aL aB).1.f7.f3.length : Int)))))), (4081, (5, (.ints .u8 (aa aL aB).1.f1.f2))), (6081, (5, (.ints .u8 (aa aL aB).1.f1.f4))), (9081, (5, (.ints .u8 (aa aL aB).1.f2.f2))), (10081, (5, (.ints .u8 (aa aL aB).1.f2.f3))), (11081, (24, (.bss (aa aL aB).1.f2.f4))), (15081, (5, (.ints .u8 (aa aL aB).1.f3.f3))), (16081, (5, (.ints .u8 (aa aL aB).1.f3.f4))), (19081, (5, (.ints .u8 (aa aL aB).1.f3.f5.f2))), (20081, (5, (.ints .u8 (aa aL aB).1.f3.f5.f3))), (21081, (24, (.bss (aa aL aB).1.f3.f5.f4))), (25081, (5, (.ints .u8 (aa aL aB).1.f4.f0.f3))), (26081, (5, (.ints .u8 (aa aL aB).1.f4.f0.f4))), (29081, (5, (.ints .u8 (aa aL aB).1.f4.f0.f5.f2))), (30081, (5, (.ints .u8 (aa aL aB).1.f4.f0.f5.f3))), (31081, (24, (.bss (aa aL aB).1.f4.f0.f5.f4))), (32081, (24, (.bss (aa aL aB).1.f4.f1))), (34081, (111, (.sl 3 ((aa aL aB).1.f5.f1.map SEntry.cells)))), (35081, (31, (.sl 10 ((aa aL aB).1.f6.f0.map SHead.cells)))), (38081, (5, (.ints .u8 (aa aL aB).1.f6.f1.f2))), (39081, (5, (.ints .u8 (aa aL aB).1.f6.f1.f3))), (40081, (24, (.bss (aa aL aB).1.f6.f1.f4))), (44081, (5, (.ints .u8 (aa aL aB).1.f7.f3))), (45081, (24, (.bss (aa aL aB).1.f7.f4)))] [(8, (43, (c_1 aB aL))), (5, (43, (c_2 aB aL))), (13, (43, (c_6 aB aL)))] ?_
 refine T.seq (T.sg ?_)
 refine TL.rx 2 [(84, (.agg (c_6 aB aL))), (85, (.agg (c_2 aB aL)))] [] ?_
 refine TL.c (Step.cz (ok_laws_eqMsg (aa aL aB).1 (aa aL aB).1)) ?_
 refine TL.known 86 (c := true) p_104 rfl ?_
 refine TL.rx 5 [(88, (pB false)), (91, (pB (decide ((aa aL aB).2 ≠ (aa aL aB).2))))] [] ?_
 refine TL.known 91 (c := false) p_104 rfl ?_
 refine TL.rl [(92, (pB false))] [] ?_
 refine T.wk [(4, (pB false)), (8, (.one (.ptr 8 0))), (11, (pI (1 + (aa aL aB).1.cm))), (12, (pI (1 + (aa aL aB).1.cm))), (92, (pB false))] [(4032, (5, (.ints .u8 (mkB (aa aL aB).1.f1.f2 1)))), (6032, (5, (.ints .u8 (mkB (aa aL aB).1.f1.f4 (1 + ((aa aL aB).1.f1.f2.length : Int)))))), (9032, (5, (.ints .u8 (mkB (aa aL aB).1.f2.f2 (1 + (aa aL aB).1.f1.cm))))), (10032, (5, (.ints .u8 (mkB (aa aL aB).1.f2.f3 ((1 + (aa aL aB).1.f1.cm) + ((aa aL aB).1.f2.f2.length : Int)))))), (11032, (24, (.bss (mkBs (aa aL aB).1.f2.f4 (((1 + (aa aL aB).1.f1.cm) + ((aa aL aB).1.f2.f2.length : Int)) + ((aa aL aB).1.f2.f3.length : Int)))))), (15032, (5, (.ints .u8 (mkB (aa aL aB).1.f3.f3 ((1 + (aa aL aB).1.f1.cm) + (aa aL aB).1.f2.cm))))), (16032, (5, (.ints .u8 (mkB (aa aL aB).1.f3.f4 (((1 + (aa aL aB).1.f1.cm) + (aa aL aB).1.f2.cm) + ((aa aL aB).1.f3.f3.length : Int)))))), (19032, (5, (.ints .u8 (mkB (aa aL aB).1.f3.f5.f2 ((((1 + (aa aL aB).1.f1.cm) + (aa aL aB).1.f2.cm) + ((aa aL aB).1.f3.f3.length : Int)) + ((aa aL aB).1.f3.f4.length : Int)))))), (20032, (5, (.ints .u8 (mkB (aa aL aB).1.f3.f5.f3 (((((1 + (aa aL aB).1.f1.cm) + (aa aL aB).1.f2.cm) + ((aa aL aB).1.f3.f3.length : Int)) + ((aa aL aB).1.f3.f4.length : Int)) + ((aa aL aB).1.f3.f5.f2.length : Int)))))), (21032, (24, (.bss (mkBs (aa aL aB).1.f3.f5.f4 ((((((1 + (aa aL aB).1.f1.cm) + (aa aL aB).1.f2.cm) + ((aa aL aB).1.f3.f3.length : Int)) + ((aa aL aB).1.f3.f4.length : Int)) + ((aa aL aB).1.f3.f5.f2.length : Int)) + ((aa aL aB).1.f3.f5.f3.length : Int)))))), (25032, (5, (.ints .u8 (mkB (aa aL aB).1.f4.f0.f3 (((1 + (aa aL aB).1.f1.cm) + (aa aL aB).1.f2.cm) + (aa aL aB).1.f3.cm))))), (26032, (5, (.ints .u8 (mkB (aa aL aB).1.f4.f0.f4 ((((1 + (aa aL aB).1.f1.cm) + (aa aL aB).1.f2.cm) + (aa aL aB).1.f3.cm) + ((aa aL aB).1.f4.f0.f3.length : Int)))))), (29032, (5, (.ints .u8 (mkB (aa aL aB).1.f4.f0.f5.f2 (((((1 + (aa aL aB).1.f1.cm) + (aa aL aB).1.f2.cm) + (aa aL aB).1.f3.cm) + ((aa aL aB).1.f4.f0.f3.length : Int)) + ((aa aL aB).1.f4.f0.f4.length : Int)))))), (30032, (5, (.ints .u8 (mkB (aa aL aB).1.f4.f0.f5.f3 ((((((1 + (aa aL aB).1.f1.cm) + (aa aL aB).1.f2.cm) + (aa aL aB).1.f3.cm) + ((aa aL aB).1.f4.f0.f3.length : Int)) + ((aa aL aB).1.f4.f0.f4.length : Int)) + ((aa aL aB).1.f4.f0.f5.f2.length : Int)))))), (31032, (24, (.bss (mkBs (aa aL aB).1.f4.f0.f5.f4 (((((((1 + (aa aL aB).1.f1.cm) + (aa aL aB).1.f2.cm) + (aa aL aB).1.f3.cm) + ((aa aL aB).1.f4.f0.f3.length : Int)) + ((aa aL aB).1.f4.f0.f4.length : Int)) + ((aa aL aB).1.f4.f0.f5.f2.length : Int)) + ((aa aL aB).1.f4.f0.f5.f3.length : Int)))))), (32032, (24, (.bss (mkBs (aa aL aB).1.f4.f1 ((((1 + (aa aL aB).1.f1.cm) + (aa aL aB).1.f2.cm) + (aa aL aB).1.f3.cm) + (aa aL aB).1.f4.f0.cm))))), (34032, (111, (.sl 3 ((mkL SEntry.ce SEntry.me (aa aL aB).1.f5.f1 ((((1 + (aa aL aB).1.f1.cm) + (aa aL aB).1.f2.cm) + (aa aL aB).1.f3.cm) + (aa aL aB).1.f4.cm)).map SEntry.cells)))), (35032, (31, (.sl 10 ((mkL SHead.ce SHead.me (aa aL aB).1.f6.f0 (((((1 + (aa aL aB).1.f1.cm) + (aa aL aB).1.f2.cm) + (aa aL aB).1.f3.cm) + (aa aL aB).1.f4.cm) + (aa aL aB).1.f5.cm)).map SHead.cells)))), (38032, (5, (.ints .u8 (mkB (aa aL aB).1.f6.f1.f2 ((((((1 + (aa aL aB).1.f1.cm) + (aa aL aB).1.f2.cm) + (aa aL aB).1.f3.cm) + (aa aL aB).1.f4.cm) + (aa aL aB).1.f5.cm) + cntL SHead.ce (aa aL aB).1.f6.f0))))), (39032, (5, (.ints .u8 (mkB (aa aL aB).1.f6.f1.f3 (((((((1 + (aa aL aB).1.f1.cm) + (aa aL aB).1.f2.cm) + (aa aL aB).1.f3.cm) + (aa aL aB).1.f4.cm) + (aa aL aB).1.f5.cm) + cntL SHead.ce (aa aL aB).1.f6.f0) + ((aa aL aB).1.f6.f1.f2.length : Int)))))), (40032, (24, (.bss (mkBs (aa aL aB).1.f6.f1.f4 ((((((((1 + (aa aL aB).1.f1.cm) + (aa aL aB).1.f2.cm) + (aa aL aB).1.f3.cm) + (aa aL aB).1.f4.cm) + (aa aL aB).1.f5.cm) + cntL SHead.ce (aa aL aB).1.f6.f0) + ((aa aL aB).1.f6.f1.f2.length : Int)) + ((aa aL aB).1.f6.f1.f3.length : Int)))))), (44032, (5, (.ints .u8 (mkB (aa aL aB).1.f7.f3 ((((((1 + (aa aL aB).1.f1.cm) + (aa aL aB).1.f2.cm) + (aa aL aB).1.f3.cm) + (aa aL aB).1.f4.cm) + (aa aL aB).1.f5.cm) + (aa aL aB).1.f6.cm))))), (45032, (24, (.bss (mkBs (aa aL aB).1.f7.f4 (((((((1 + (aa aL aB).1.f1.cm) + (aa aL aB).1.f2.cm) + (aa aL aB).1.f3.cm) + (aa aL aB).1.f4.cm) + (aa aL aB).1.f5.cm) + (aa aL aB).1.f6.cm) + ((aa aL aB).1.f7.f3.length : Int))))))] [(8, (43, (c_1 aB aL)))] ?_
 refine T.cf (T.skip ?_)
 refine T.sr [(12, (pI 1))] [] ?_
 refine T.sg ?_
 refine TL.rx 2 [(93, (.agg (c_1 aB aL))), (94, (pI 1))] [] ?_
 have nn7 := SMsg.cm_nn (aa aL aB).1
 refine TL.c (Step.cz (ok_laws_heldMsg (aa aL aB).1 (⟨(aa aL aB).1.f0, (⟨(aa aL aB).1.f1.f0, (aa aL aB).1.f1.f1, mkB (aa aL aB).1.f1.f2 1, (aa aL aB).1.f1.f3, mkB (aa aL aB).1.f1.f4 (1 + ((aa aL aB).1.f1.f2.length : Int))⟩ : SVote), (⟨(aa aL aB).1.f2.f0, (aa aL aB).1.f2.f1, mkB (aa aL aB).1.f2.f2 (1 + (aa aL aB).1.f1.cm), mkB (aa aL aB).1.f2.f3 ((1 + (aa aL aB).1.f1.cm) + ((aa aL aB).1.f2.f2.length : Int)), mkBs (aa aL aB).1.f2.f4 (((1 + (aa aL aB).1.f1.cm) + ((aa aL aB).1.f2.f2.length : Int)) + ((aa aL aB).1.f2.f3.length : Int))⟩ : SQc), (⟨(aa aL aB).1.f3.f0, (aa aL aB).1.f3.f1, (aa aL aB).1.f3.f2, mkB (aa aL aB).1.f3.f3 ((1 + (aa aL aB).1.f1.cm) + (aa aL aB).1.f2.cm), mkB (aa aL aB).1.f3.f4 (((1 + (aa aL aB).1.f1.cm) + (aa aL aB).1.f2.cm) + ((aa aL aB).1.f3.f3.length : Int)), (⟨(aa aL aB).1.f3.f5.f0, (aa aL aB).1.f3.f5.f1, mkB (aa aL aB).1.f3.f5.f2 ((((1 + (aa aL aB).1.f1.cm) + (aa aL aB).1.f2.cm) + ((aa aL aB).1.f3.f3.length : Int)) + ((aa aL aB).1.f3.f4.length : Int)), mkB (aa aL aB).1.f3.f5.f3 (((((1 + (aa aL aB).1.f1.cm) + (aa aL aB).1.f2.cm) + ((aa aL aB).1.f3.f3.length : Int)) + ((aa aL aB).1.f3.f4.length : Int)) + ((aa aL aB).1.f3.f5.f2.length : Int)), mkBs (aa aL aB).1.f3.f5.f4 ((((((1 + (aa aL aB).1.f1.cm) + (aa aL aB).1.f2.cm) + ((aa aL aB).1.f3.f3.length : Int)) + ((aa aL aB).1.f3.f4.length : Int)) + ((aa aL aB).1.f3.f5.f2.length : Int)) + ((aa aL aB).1.f3.f5.f3.length : Int))⟩ : SQc)⟩ : SHead), (⟨(⟨(aa aL aB).1.f4.f0.f0, (aa aL aB).1.f4.f0.f1, (aa aL aB).1.f4.f0.f2, mkB (aa aL aB).1.f4.f0.f3 (((1 + (aa aL aB).1.f1.cm) + (aa aL aB).1.f2.cm) + (aa aL aB).1.f3.cm), mkB (aa aL aB).1.f4.f0.f4 ((((1 + (aa aL aB).1.f1.cm) + (aa aL aB).1.f2.cm) + (aa aL aB).1.f3.cm) + ((aa aL aB).1.f4.f0.f3.length : Int)), (⟨(aa aL aB).1.f4.f0.f5.f0, (aa aL aB).1.f4.f0.f5.f1, mkB (aa aL aB).1.f4.f0.f5.f2 (((((1 + (aa aL aB).1.f1.cm) + (aa aL aB).1.f2.cm) + (aa aL aB).1.f3.cm) + ((aa aL aB).1.f4.f0.f3.length : Int)) + ((aa aL aB).1.f4.f0.f4.length : Int)), mkB (aa aL aB).1.f4.f0.f5.f3 ((((((1 + (aa aL aB).1.f1.cm) + (aa aL aB).1.f2.cm) + (aa aL aB).1.f3.cm) + ((aa aL aB).1.f4.f0.f3.length : Int)) + ((aa aL aB).1.f4.f0.f4.length : Int)) + ((aa aL aB).1.f4.f0.f5.f2.length : Int)), mkBs (aa aL aB).1.f4.f0.f5.f4 (((((((1 + (aa aL aB).1.f1.cm) + (aa aL aB).1.f2.cm) + (aa aL aB).1.f3.cm) + ((aa aL aB).1.f4.f0.f3.length : Int)) + ((aa aL aB).1.f4.f0.f4.length : Int)) + ((aa aL aB).1.f4.f0.f5.f2.length : Int)) + ((aa aL aB).1.f4.f0.f5.f3.length : Int))⟩ : SQc)⟩ : SHead), mkBs (aa aL aB).1.f4.f1 ((((1 + (aa aL aB).1.f1.cm) + (aa aL aB).1.f2.cm) + (aa aL aB).1.f3.cm) + (aa aL aB).1.f4.f0.cm)⟩ : SBlock), (⟨(aa aL aB).1.f5.f0, mkL SEntry.ce SEntry.me (aa aL aB).1.f5.f1 ((((1 + (aa aL aB).1.f1.cm) + (aa aL aB).1.f2.cm) + (aa aL aB).1.f3.cm) + (aa aL aB).1.f4.cm)⟩ : STc), (⟨mkL SHead.ce SHead.me (aa aL aB).1.f6.f0 (((((1 + (aa aL aB).1.f1.cm) + (aa aL aB).1.f2.cm) + (aa aL aB).1.f3.cm) + (aa aL aB).1.f4.cm) + (aa aL aB).1.f5.cm), (⟨(aa aL aB).1.f6.f1.f0, (aa aL aB).1.f6.f1.f1, mkB (aa aL aB).1.f6.f1.f2 ((((((1 + (aa aL aB).1.f1.cm) + (aa aL aB).1.f2.cm) + (aa aL aB).1.f3.cm) + (aa aL aB).1.f4.cm) + (aa aL aB).1.f5.cm) + cntL SHead.ce (aa aL aB).1.f6.f0), mkB (aa aL aB).1.f6.f1.f3 (((((((1 + (aa aL aB).1.f1.cm) + (aa aL aB).1.f2.cm) + (aa aL aB).1.f3.cm) + (aa aL aB).1.f4.cm) + (aa aL aB).1.f5.cm) + cntL SHead.ce (aa aL aB).1.f6.f0) + ((aa aL aB).1.f6.f1.f2.length : Int)), mkBs (aa aL aB).1.f6.f1.f4 ((((((((1 + (aa aL aB).1.f1.cm) + (aa aL aB).1.f2.cm) + (aa aL aB).1.f3.cm) + (aa aL aB).1.f4.cm) + (aa aL aB).1.f5.cm) + cntL SHead.ce (aa aL aB).1.f6.f0) + ((aa aL aB).1.f6.f1.f2.length : Int)) + ((aa aL aB).1.f6.f1.f3.length : Int))⟩ : SQc)⟩ : SProof), (⟨(aa aL aB).1.f7.f0, (aa aL aB).1.f7.f1, (aa aL aB).1.f7.f2, mkB (aa aL aB).1.f7.f3 ((((((1 + (aa aL aB).1.f1.cm) + (aa aL aB).1.f2.cm) + (aa aL aB).1.f3.cm) + (aa aL aB).1.f4.cm) + (aa aL aB).1.f5.cm) + (aa aL aB).1.f6.cm), mkBs (aa aL aB).1.f7.f4 (((((((1 + (aa aL aB).1.f1.cm) + (aa aL aB).1.f2.cm) + (aa aL aB).1.f3.cm) + (aa aL aB).1.f4.cm) + (aa aL aB).1.f5.cm) + (aa aL aB).1.f6.cm) + ((aa aL aB).1.f7.f3.length : Int))⟩ : SIncl)⟩ : SMsg) 1 p_4 (by first | omega | (have := SMsg.cm_le (x := (aa aL aB).1) (by assumption); omega)) p_37)) ?_
 refine TL.rl [(12, (pI (1 + (aa aL aB).1.cm)))] [] ?_
 refine T.seq (T.sg ?_)
 refine TL.rx 2 [(97, (pB (decide ((1 + (aa aL aB).1.cm) < 0))))] [] ?_
 refine TL.known 97 (c := false) (decide_eq_false p_4) rfl ?_
 refine TL.nil (T.cf (T.skip (T.seq (T.sg ?_))))
 refine TL.rx 3 [(100, (pB (decide ((1 + (aa aL aB).1.cm) ≠ (1 + (aa aL aB).1.cm)))))] [] ?_
 refine TL.known 100 (c := false) p_104 rfl ?_
 refine TL.nil (T.cf (T.skip ?_))
 refine T.sr [(4, (pB true))] [] ?_
 refine T.ret ?_
 exact ⟨_, (.cons rfl .nil), rfl, _, (.r rfl .nil)⟩
end Go.Proofs.YtjohlfccejljlaaGreat.Rf
