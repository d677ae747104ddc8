/- The functions that FnExactConsOk calls, each held to what it answers. Printed by a program of this session; Lean checks it. -/
import Derived.Test.YtmdojlglemnijaaProg
import Derived.Test.YtmdojlglemnijaaRf32
import Derived.Test.YtmdojlglemnijaaRFnExactConsOkx1
namespace Go.Proofs.Ytmdojlglemnijaa.Rf
open Go.RowKit
set_option linter.unusedVariables false
set_option linter.unnecessarySimpa false
set_option linter.unusedSimpArgs false
set_option maxRecDepth 100000
set_option maxHeartbeats 4000000
theorem ok_spec_Sha (b : List Int) (h0_ : U8s b) (h1_ : b.length ≤ 17592186040000) : RO Try.prog 89 [.one (.ints .u8 b)] [(false, [.own 5 (.ints .u8 (sha b))])] := by
 refine RO.intro Try.func89 rfl 48 rfl (le_ok rfl) fun w Z => ?_
 refine T.bnd 0 0 rfl rfl fun hb_0_0 => ?_
 simp only [D.size, List.length_map] at hb_0_0
 refine T.seq ?_
 refine T.region ?_
 refine TL.cons rfl (Step.assign (p := (.one (.nil))) rfl rfl (lt_ok rfl) rfl) ?_
 refine TL.nil ?_
 refine T.seq ?_
 refine T.region ?_
 refine TL.cons rfl (Step.call (f := 107) (xs := []) (ps := []) false (g := .func 107) rfl rfl (lt_ok rfl) rfl (by kernel_rfl) rfl .nil (ok_spec_ShaInit ) (.inr rfl) rfl (by simp) rfl) ?_
 refine TL.cons rfl (Step.assign (p := (.one (.row 1009 []))) rfl rfl (lt_ok rfl) rfl) ?_
 refine TL.ren 1009 600003 rfl (by simp) ?_
 refine TL.nil ?_
 refine T.seq ?_
 refine T.region ?_
 refine TL.cons rfl (Step.move (p := (.one (.d (.ints .u8 b)))) rfl rfl (lt_ok rfl) rfl) ?_
 have nn1 := shaPad_mod b
 refine TL.cons rfl (Step.call (f := 108) (xs := [.tmp 10]) (ps := [(.one (.d (.ints .u8 b)))]) false (g := .func 108) rfl rfl (lt_ok rfl) rfl (by kernel_rfl) rfl (.cons (.one (.d _)) .nil) (ok_spec_ShaPad b (by first | omega | assumption | (simp only [List.length_append] at *; omega))) (.inr rfl) rfl (by simp) rfl) ?_
 refine TL.freeze (r := 1011) rfl (fun _ h => h) ?_
 refine TL.cons rfl (Step.assign (p := (.one (.d (.ints .u8 (shaPad b))))) rfl rfl (lt_ok rfl) rfl) ?_
 refine TL.nil ?_
 refine T.seq ?_
 refine T.seq ?_
 refine T.region ?_
 refine TL.cons rfl (Step.assign (p := (.one (.d (.int .i64 0)))) rfl rfl (lt_ok rfl) rfl) ?_
 refine TL.nil ?_
 refine T.block ?_
 refine T.loop (ι := Nat) (fun xx_ => { tm := [(2, (.one (.nil))), (4, (.one (.d (.ints .u8 (shaPad b))))), (5, (.one (.d (.int .i64 (64 * (xx_ : Int)))))), (3, (.one (.row 600003 [])))], rows := [(600003, (3, (.ints .i64 (hN (shaPad b) xx_))))], boxes := [] }) (fun xx_ => 64 * xx_ ≤ (shaPad b).length) (fun xx_ => (shaPad b).length - 64 * xx_) 0 ?_ ?_ ?_
 · refine Env.le_mk ⟨rfl, rfl, ?_, rfl, trivial⟩ ⟨?_, trivial⟩ trivial <;> (first | rfl | (refine congrArg (fun n => PV.one (.d (.int .i64 n))) ?_; first | rfl | omega | (simp; done)))
 · exact Nat.zero_le _
 ·
  intro i hx
  try dsimp only at hx ⊢
  have hu_ := u8_sub (shaPad_u8 h0_)
  refine T.seq ?_
  refine T.seq ?_
  refine T.region ?_
  refine TL.cons rfl (Step.move (p := (.one (.d (.int .i64 (64 * (i : Int)))))) rfl rfl (lt_ok rfl) rfl) ?_
  refine TL.cons rfl (Step.move (p := (.one (.d (.ints .u8 (shaPad b))))) rfl rfl (lt_ok rfl) rfl) ?_
  refine TL.cons rfl (Step.len (e := 5) (z := 1) (d := (.ints .u8 (shaPad b))) rfl rfl (lt_ok rfl) (by kernel_rfl) rfl rfl) ?_
  refine TL.cons rfl (Step.bin rfl rfl (lt_ok rfl) rfl rfl (Bin.lss (k := .i64) (a := (64 * (i : Int))) (b := ((shaPad b).length : Int)))) ?_
  refine TL.nil ?_
  refine T.cond (b := decide ((64 * (i : Int)) < ((shaPad b).length : Int))) rfl (fun h2 => ?_) (fun h2 => ?_)
  ·
   replace h2 := of_decide_eq_true h2
   refine T.skip ?_
   refine T.seq ?_
   refine T.block ?_
   refine T.region ?_
   refine TL.cons rfl (Step.move (p := (.one (.row 600003 []))) rfl rfl (lt_ok rfl) rfl) ?_
   refine TL.cons rfl (Step.move (p := (.one (.d (.ints .u8 (shaPad b))))) rfl rfl (lt_ok rfl) rfl) ?_
   refine TL.cons rfl (Step.move (p := (.one (.d (.int .i64 (64 * (i : Int)))))) rfl rfl (lt_ok rfl) rfl) ?_
   refine TL.cons rfl (Step.move (p := (.one (.d (.int .i64 (64 * (i : Int)))))) rfl rfl (lt_ok rfl) rfl) ?_
   refine TL.cons rfl (Step.bin (r := .int .i64 ((64 * (i : Int)) + 64)) rfl rfl (lt_ok rfl) rfl rfl (Bin.add (a := (64 * (i : Int))) (b := 64) (by first | exact wrap_ok (by first | omega | (simp; omega)) (by first | omega | (simp; omega)) | rfl))) ?_
   refine TL.cons rfl (Step.slice (e := 5) (z := 1) (l := (64 * (i : Int)).toNat) (h := ((64 * (i : Int)) + 64).toNat) rfl rfl (lt_ok rfl) (by kernel_rfl) rfl rfl rfl ((.some (i := (64 * (i : Int))) rfl (by first | omega | (simp; omega)))) ((.some (i := ((64 * (i : Int)) + 64)) rfl (by first | omega | (simp; omega)))) (by first | omega | (simp; omega)) (by simp only [D.size]; first | omega | (simp; omega)) rfl) ?_
   have nn3 := shaBlock_len (hN (shaPad b) i) (((shaPad b).drop (64 * (i : Int)).toNat).take (((64 * (i : Int)) + 64).toNat - (64 * (i : Int)).toNat))
   refine TL.cons rfl (Step.call (f := 109) (xs := [.tmp 18, .tmp 23]) (ps := [(.one (.row 600003 [])), (.one (.d (.ints .u8 (((shaPad b).drop (64 * (i : Int)).toNat).take (((64 * (i : Int)) + 64).toNat - (64 * (i : Int)).toNat)))))]) false (g := .func 109) rfl rfl (lt_ok rfl) rfl (by kernel_rfl) rfl (.cons (.one (.row rfl rfl rfl rfl)) (.cons (.one (.d _)) .nil)) (ok_spec_ShaBlock (hN (shaPad b) i) (((shaPad b).drop (64 * (i : Int)).toNat).take (((64 * (i : Int)) + 64).toNat - (64 * (i : Int)).toNat)) (by first | assumption | exact hu_ _ _)) (.inr rfl) rfl (by simp) rfl) ?_
   refine TL.cons rfl (Step.assign (p := (.one (.row 1024 []))) rfl rfl (lt_ok rfl) rfl) ?_
   refine TL.weaken (Env.drops_le [600003] _) ?_
   refine TL.ren 1024 600003 rfl (by simp) ?_
   refine TL.nil ?_
   refine T.region ?_
   refine TL.cons rfl (Step.move (p := (.one (.d (.int .i64 (64 * (i : Int)))))) rfl rfl (lt_ok rfl) rfl) ?_
   refine TL.cons rfl (Step.bin (r := .int .i64 ((64 * (i : Int)) + 64)) rfl rfl (lt_ok rfl) rfl rfl (Bin.add (a := (64 * (i : Int))) (b := 64) (by first | exact wrap_ok (by first | omega | (simp; omega)) (by first | omega | (simp; omega)) | rfl))) ?_
   refine TL.cons rfl (Step.assign (p := (.one (.d (.int .i64 ((64 * (i : Int)) + 64))))) rfl rfl (lt_ok rfl) rfl) ?_
   refine TL.nil ?_
   refine ⟨i + 1, by omega, by first | omega | (dsimp only; omega), Env.le_mk ⟨rfl, rfl, ?_, rfl, trivial⟩ ⟨?_, trivial⟩ trivial⟩ <;> (first | rfl | (refine congrArg (fun n => PV.one (.d (.int .i64 n))) ?_; first | rfl | omega | (simp; done)))
  ·
   replace h2 := of_decide_eq_false h2
   refine T.exit ?_
   refine T.seq ?_
   refine T.region ?_
   refine TL.cons rfl (Step.lit (e := 5) (z := 1) (by_ := 1) (xs := []) (pss := []) (es := []) (ss := []) (d := (.ints .u8 [])) rfl rfl (lt_ok rfl) (by kernel_rfl) rfl rfl .nil (by simp) (le_ok rfl) (le_ok rfl) rfl .nil rfl (by simp) (by simp) rfl trivial rfl rfl) ?_
   refine TL.cons rfl (Step.assign (p := (.one (.row 25 []))) rfl rfl (lt_ok rfl) rfl) ?_
   refine TL.nil ?_
   refine T.seq ?_
   refine T.seq ?_
   refine T.region ?_
   refine TL.cons rfl (Step.move (p := (.one (.row 600003 []))) rfl rfl (lt_ok rfl) rfl) ?_
   refine TL.cons rfl (Step.len (e := 3) (z := 1) (d := (.ints .i64 (hN (shaPad b) i))) rfl rfl (lt_ok rfl) (by kernel_rfl) rfl rfl) ?_
   refine TL.cons rfl (Step.move (p := (.one (.d (.int .i64 0)))) rfl rfl (lt_ok rfl) rfl) ?_
   refine TL.nil ?_
   refine T.block ?_
   refine T.loop (ι := Nat) (fun xx_ => { tm := [(2, (.one (.nil))), (26, (.one (.row 600003 []))), (27, (.one (.d (.int .i64 ((shaH b).length : Int))))), (28, (.one (.d (.int .i64 (xx_ : Int))))), (6, (.one (.row 25 [])))], rows := [(600003, (3, (.ints .i64 (shaH b)))), (25, (5, (.ints .u8 (outB (shaH b) xx_))))], boxes := [] }) (fun xx_ => xx_ ≤ (shaH b).length) (fun xx_ => (shaH b).length - xx_) 0 ?_ ?_ ?_
   · refine Env.le_mk ⟨rfl, rfl, ?_, ?_, rfl, trivial⟩ ⟨?_, ?_, trivial⟩ trivial <;> (first | rfl | (refine congrArg (fun x => some (_, D.ints .i64 x)) ?_; unfold shaH; rw [show i = (shaPad b).length / 64 from by omega]) | (refine congrArg (fun n => PV.one (.d (.int .i64 n))) ?_; first | rfl | omega | (unfold shaH; rw [show i = (shaPad b).length / 64 from by omega]; first | done | rfl) | (simp; done)))
   · exact Nat.zero_le _
   ·
    intro i hx
    try dsimp only at hx ⊢
    have hl_ := outB_len (shaH b) i
    have hh_ : (shaH b).length ≤ 8 := hN_len _ _
    refine T.seq ?_
    refine T.region ?_
    refine TL.cons rfl (Step.bin rfl rfl (lt_ok rfl) rfl rfl (Bin.lss (k := .i64) (a := (i : Int)) (b := ((shaH b).length : Int)))) ?_
    refine TL.nil ?_
    refine T.seq ?_
    refine T.cond (b := decide ((i : Int) < ((shaH b).length : Int))) rfl (fun h4 => ?_) (fun h4 => ?_)
    ·
     replace h4 := of_decide_eq_true h4
     refine T.skip ?_
     refine T.seq ?_
     refine T.block ?_
     refine T.seq ?_
     refine T.region ?_
     refine TL.cons rfl (Step.index_row (e := 3) (z := 1) (i := (i : Int)) rfl rfl (lt_ok rfl) (by kernel_rfl) rfl rfl rfl rfl (lt_ok rfl) rfl (by first | omega | (simp; omega)) (by simp only [D.at_, D.cell, D.size]; first | omega | (simp; omega))) ?_
     refine TL.cons rfl (Step.load_row (c := .d (.int .i64 ((shaH b).getD i 0))) rfl rfl (lt_ok rfl) (by kernel_rfl) rfl rfl rfl) ?_
     refine TL.cons rfl (Step.assign (p := (.one (.d (.int .i64 ((shaH b).getD i 0))))) rfl rfl (lt_ok rfl) rfl) ?_
     refine TL.nil ?_
     refine T.region ?_
     refine TL.cons rfl (Step.move (p := (.one (.row 25 []))) rfl rfl (lt_ok rfl) rfl) ?_
     refine TL.cons rfl (Step.move (p := (.one (.d (.int .i64 ((shaH b).getD i 0))))) rfl rfl (lt_ok rfl) rfl) ?_
     refine TL.cons rfl (Step.bin (r := .int .i64 (bshr ((shaH b).getD i 0) 24)) rfl rfl (lt_ok rfl) rfl rfl (Bin.shr (k := .i64) (k' := .u64) (a := ((shaH b).getD i 0)) (b := 24) (by first | omega | (simp; omega)) (rfl))) ?_
     refine TL.cons rfl (Step.conv (c := ((bshr ((shaH b).getD i 0) 24) % 256)) rfl rfl (lt_ok rfl) (by kernel_rfl) (by kernel_rfl) rfl (wrap_byte _)) ?_
     refine TL.cons rfl (Step.move (p := (.one (.d (.int .i64 ((shaH b).getD i 0))))) rfl rfl (lt_ok rfl) rfl) ?_
     refine TL.cons rfl (Step.bin (r := .int .i64 (bshr ((shaH b).getD i 0) 16)) rfl rfl (lt_ok rfl) rfl rfl (Bin.shr (k := .i64) (k' := .u64) (a := ((shaH b).getD i 0)) (b := 16) (by first | omega | (simp; omega)) (rfl))) ?_
     refine TL.cons rfl (Step.conv (c := ((bshr ((shaH b).getD i 0) 16) % 256)) rfl rfl (lt_ok rfl) (by kernel_rfl) (by kernel_rfl) rfl (wrap_byte _)) ?_
     refine TL.cons rfl (Step.move (p := (.one (.d (.int .i64 ((shaH b).getD i 0))))) rfl rfl (lt_ok rfl) rfl) ?_
     refine TL.cons rfl (Step.bin (r := .int .i64 (bshr ((shaH b).getD i 0) 8)) rfl rfl (lt_ok rfl) rfl rfl (Bin.shr (k := .i64) (k' := .u64) (a := ((shaH b).getD i 0)) (b := 8) (by first | omega | (simp; omega)) (rfl))) ?_
     refine TL.cons rfl (Step.conv (c := ((bshr ((shaH b).getD i 0) 8) % 256)) rfl rfl (lt_ok rfl) (by kernel_rfl) (by kernel_rfl) rfl (wrap_byte _)) ?_
     refine TL.cons rfl (Step.move (p := (.one (.d (.int .i64 ((shaH b).getD i 0))))) rfl rfl (lt_ok rfl) rfl) ?_
     refine TL.cons rfl (Step.conv (c := (((shaH b).getD i 0) % 256)) rfl rfl (lt_ok rfl) (by kernel_rfl) (by kernel_rfl) rfl (wrap_byte _)) ?_
     refine TL.cons rfl (Step.lit (e := 5) (z := 1) (by_ := 1) (xs := [.tmp 35, .tmp 38, .tmp 41, .tmp 43]) (pss := [[.d (.int .u8 ((bshr ((shaH b).getD i 0) 24) % 256))], [.d (.int .u8 ((bshr ((shaH b).getD i 0) 16) % 256))], [.d (.int .u8 ((bshr ((shaH b).getD i 0) 8) % 256))], [.d (.int .u8 (((shaH b).getD i 0) % 256))]]) (es := [(.int .u8 ((bshr ((shaH b).getD i 0) 24) % 256)), (.int .u8 ((bshr ((shaH b).getD i 0) 16) % 256)), (.int .u8 ((bshr ((shaH b).getD i 0) 8) % 256)), (.int .u8 (((shaH b).getD i 0) % 256))]) (ss := []) (d := (.ints .u8 [(bshr ((shaH b).getD i 0) 24) % 256, (bshr ((shaH b).getD i 0) 16) % 256, (bshr ((shaH b).getD i 0) 8) % 256, ((shaH b).getD i 0) % 256])) rfl rfl (lt_ok rfl) (by kernel_rfl) rfl rfl (.cons rfl (.cons rfl (.cons rfl (.cons rfl .nil)))) (by simp) (le_ok rfl) (le_ok rfl) rfl (.val rfl (.val rfl (.val rfl (.val rfl .nil)))) rfl (by simp) (by simp) rfl trivial rfl rfl) ?_
     refine TL.cons rfl (Step.append (e := 5) (z := 1) (by_ := 1) (d := (.ints .u8 (outB (shaH b) i))) (dy := (.ints .u8 [(bshr ((shaH b).getD i 0) 24) % 256, (bshr ((shaH b).getD i 0) 16) % 256, (bshr ((shaH b).getD i 0) 8) % 256, ((shaH b).getD i 0) % 256])) (d' := (.ints .u8 ((outB (shaH b) i) ++ [(bshr ((shaH b).getD i 0) 24) % 256, (bshr ((shaH b).getD i 0) 16) % 256, (bshr ((shaH b).getD i 0) 8) % 256, ((shaH b).getD i 0) % 256]))) (ss := []) rfl rfl (lt_ok rfl) (by kernel_rfl) rfl rfl rfl (lt_ok rfl) rfl (.copy rfl rfl rfl (by simp [D.flat, D.val])) (by simp) rfl (by simp only [D.size, List.length_map]; first | omega | (simp only [List.length_append, List.length_cons, List.length_nil]; omega) | (simp; omega) | (simp only [List.length_append] at *; omega)) (by simp only [D.size, List.length_map]; first | omega | (simp only [List.length_append, List.length_cons, List.length_nil]; omega) | (simp; omega) | (simp only [List.length_append] at *; omega)) (by simp)) ?_
     refine TL.cons rfl (Step.assign (p := (.one (.row 25 []))) rfl rfl (lt_ok rfl) rfl) ?_
     refine TL.nil ?_
     refine T.region ?_
     refine TL.cons rfl (Step.bin (r := .int .i64 ((i : Int) + 1)) rfl rfl (lt_ok rfl) rfl rfl (Bin.add (a := (i : Int)) (b := 1) (by first | exact wrap_ok (by first | omega | (simp; omega)) (by first | omega | (simp; omega)) | rfl))) ?_
     refine TL.cons rfl (Step.move (p := (.one (.d (.int .i64 ((i : Int) + 1))))) rfl rfl (lt_ok rfl) rfl) ?_
     refine TL.nil ?_
     refine ⟨i + 1, by omega, by first | omega | (dsimp only; omega), Env.le_mk ⟨rfl, rfl, rfl, ?_, rfl, trivial⟩ ⟨rfl, ?_, trivial⟩ trivial⟩ <;> (first | rfl | (refine congrArg (fun x => some (_, D.ints .i64 x)) ?_; unfold shaH; rw [show i = (shaPad b).length / 64 from by omega]) | (refine congrArg (fun n => PV.one (.d (.int .i64 n))) ?_; first | rfl | omega | (unfold shaH; rw [show i = (shaPad b).length / 64 from by omega]; first | done | rfl) | (simp; done)))
    ·
     replace h4 := of_decide_eq_false h4
     refine T.exit ?_
     refine T.seq ?_
     refine T.region ?_
     refine TL.cons rfl (Step.move (p := (.one (.row 25 []))) rfl rfl (lt_ok rfl) rfl) ?_
     refine TL.cons rfl (Step.assign (p := (.one (.row 25 []))) rfl rfl (lt_ok rfl) rfl) ?_
     refine TL.nil ?_
     refine T.ret ?_
     refine ⟨[(false, [.row 25 []])], (.cons rfl .nil), rfl, [25], (RetC.own' rfl ?_ rfl .nil)⟩ <;> ((congr 1; unfold sha; rw [show i = (shaH b).length from by omega]))
theorem ok_spec_NodeHash (a : List Int) (b : List Int) (h0_ : U8s a) (h1_ : U8s b) (h2_ : a.length ≤ 1048576) (h3_ : b.length ≤ 1048576) : RO Try.prog 90 [.one (.ints .u8 a), .one (.ints .u8 b)] [(false, [.own 5 (.ints .u8 (nodeHash a b))])] := by
 refine RO.intro Try.func90 rfl 13 rfl (le_ok rfl) fun w Z => ?_
 refine T.bnd 0 0 rfl rfl fun hb_0_0 => ?_
 simp only [D.size, List.length_map] at hb_0_0
 refine T.bnd 1 0 rfl rfl fun hb_1_0 => ?_
 simp only [D.size, List.length_map] at hb_1_0
 refine T.seq ?_
 refine T.region ?_
 refine TL.cons rfl (Step.assign (p := (.one (.nil))) rfl rfl (lt_ok rfl) rfl) ?_
 refine TL.nil ?_
 refine T.seq ?_
 refine T.region ?_
 refine TL.cons rfl (Step.lit (e := 5) (z := 1) (by_ := 1) (xs := [.const (.int .u8 1)]) (pss := [[.d (.int .u8 1)]]) (es := [(.int .u8 1)]) (ss := []) (d := (.ints .u8 [1])) rfl rfl (lt_ok rfl) (by kernel_rfl) rfl rfl (.cons rfl .nil) (by simp) (le_ok rfl) (le_ok rfl) rfl (.val rfl .nil) rfl (by simp) (by simp) rfl trivial rfl rfl) ?_
 refine TL.cons rfl (Step.move (p := (.one (.d (.ints .u8 a)))) rfl rfl (lt_ok rfl) rfl) ?_
 refine TL.cons rfl (Step.append (e := 5) (z := 1) (by_ := 1) (d := (.ints .u8 [1])) (dy := (.ints .u8 a)) (d' := (.ints .u8 ([1] ++ a))) (ss := []) rfl rfl (lt_ok rfl) (by kernel_rfl) rfl rfl rfl (lt_ok rfl) rfl (.froz rfl (by simp [D.flat, D.val])) (by simp) rfl (by simp only [D.size, List.length_map]; first | omega | (simp only [List.length_append, List.length_cons, List.length_nil]; omega) | (simp; omega) | (simp only [List.length_append] at *; omega)) (by simp only [D.size, List.length_map]; first | omega | (simp only [List.length_append, List.length_cons, List.length_nil]; omega) | (simp; omega) | (simp only [List.length_append] at *; omega)) (by simp)) ?_
 refine TL.cons rfl (Step.assign (p := (.one (.row 6 []))) rfl rfl (lt_ok rfl) rfl) ?_
 refine TL.nil ?_
 refine T.seq ?_
 refine T.region ?_
 refine TL.cons rfl (Step.move (p := (.one (.row 6 []))) rfl rfl (lt_ok rfl) rfl) ?_
 refine TL.cons rfl (Step.move (p := (.one (.d (.ints .u8 b)))) rfl rfl (lt_ok rfl) rfl) ?_
 refine TL.cons rfl (Step.append (e := 5) (z := 1) (by_ := 1) (d := (.ints .u8 ([1] ++ a))) (dy := (.ints .u8 b)) (d' := (.ints .u8 (([1] ++ a) ++ b))) (ss := []) rfl rfl (lt_ok rfl) (by kernel_rfl) rfl rfl rfl (lt_ok rfl) rfl (.froz rfl (by simp [D.flat, D.val])) (by simp) rfl (by simp only [D.size, List.length_map]; first | omega | (simp only [List.length_append, List.length_cons, List.length_nil]; omega) | (simp; omega) | (simp only [List.length_append] at *; omega)) (by simp only [D.size, List.length_map]; first | omega | (simp only [List.length_append, List.length_cons, List.length_nil]; omega) | (simp; omega) | (simp only [List.length_append] at *; omega)) (by simp)) ?_
 have nn1 := sha_len (([1] ++ a) ++ b)
 have nn2 := sha_u8 (([1] ++ a) ++ b)
 refine TL.cons rfl (Step.call (f := 89) (xs := [.tmp 11]) (ps := [(.one (.row 6 []))]) false (g := .func 89) rfl rfl (lt_ok rfl) rfl (by kernel_rfl) rfl (.cons (.one (.row rfl rfl rfl rfl)) .nil) (ok_spec_Sha (([1] ++ a) ++ b) (by first | assumption | exact sha_u8 _ | exact treeRoot_u8 _ | exact nodeHash_u8 _ _ | exact leafHash_u8 _ | exact u8_cons (by decide) (by assumption) | exact mem_getD (p := U8s) (by assumption) (by omega) | exact u8_app (u8_cons (by decide) (by assumption)) (by assumption) | exact fun x hx => by cases hx) (by first | omega | assumption | (simp only [List.length_append] at *; omega) | (simp; done) | (simp; omega))) (.inr rfl) rfl (by simp) rfl) ?_
 refine TL.cons rfl (Step.assign (p := (.one (.row 1012 []))) rfl rfl (lt_ok rfl) rfl) ?_
 refine TL.nil ?_
 refine T.ret ?_
 refine ⟨[(false, [.row 1012 []])], (.cons rfl .nil), rfl, [1012], (RetC.own' rfl ?_ rfl .nil)⟩ <;> (rfl)
theorem ok_spec_l09Roots_r (d_ : Nat) : ∀ (m : Int) (n : Int) (old : List Int) (proof : List (List Int)) (known : Bool) (hd_ : n.toNat = d_) (h0_ : 1 ≤ m ∧ m ≤ n ∧ n ≤ 1048576) (h1_ : (proof.length : Int) = cLen m n known) (h2_ : U8s old) (h3_ : ∀ y ∈ proof, U8s y) (h4_ : ∀ y ∈ proof, y.length ≤ 1048576) (h5_ : old.length ≤ 1048576), RO Try.prog 75 [.one (.int .i64 m), .one (.int .i64 n), .one (.ints .u8 old), .one (.bss proof), .one (.bool known)] [(false, [.rd (.ints .u8 (cRoots m n old proof known).1)]), (false, [.rd (.ints .u8 (cRoots m n old proof known).2)])] := by
 refine Nat.strongRecOn d_ ?_
 intro d_ ih m n old proof known hd_ h0_ h1_ h2_ h3_ h4_ h5_
 subst hd_
 refine RO.intro Try.func75 rfl 78 rfl (le_ok rfl) fun w Z => ?_
 refine T.bnd 2 0 rfl rfl fun hb_2_0 => ?_
 simp only [D.size, List.length_map] at hb_2_0
 refine T.bnd 3 0 rfl rfl fun hb_3_0 => ?_
 simp only [D.size, List.length_map] at hb_3_0
 have hsb_ := splitAtT_bd n
 have hcl_ := @cLen_left m n known
 have hcr_ := @cLen_right m n known
 have hce_ := @cLen_eq m n known
 have hfk_ : known = false → flag (!known) = 1 := fun h => by rw [h]; rfl
 have hbl_ := cLen_bd (splitAtT n).toNat m (splitAtT n) known (by omega)
 have hbr_ := cLen_bd (n - splitAtT n).toNat (m - splitAtT n) (n - splitAtT n) false (by omega)
 have hpp_ := pre_len proof
 have hy_ := mem_len h4_ ((proof.length : Int) - 1).toNat
 have hy0_ := mem_len h4_ 0
 refine T.seq ?_
 refine T.region ?_
 refine TL.cons rfl (Step.assign (p := (.one (.nil))) rfl rfl (lt_ok rfl) rfl) ?_
 refine TL.cons rfl (Step.assign (p := (.one (.nil))) rfl rfl (lt_ok rfl) rfl) ?_
 refine TL.nil ?_
 refine T.seq ?_
 refine T.seq ?_
 refine T.region ?_
 refine TL.cons rfl (Step.move (p := (.one (.d (.int .i64 m)))) rfl rfl (lt_ok rfl) rfl) ?_
 refine TL.cons rfl (Step.move (p := (.one (.d (.int .i64 n)))) rfl rfl (lt_ok rfl) rfl) ?_
 refine TL.cons rfl (Step.bin rfl rfl (lt_ok rfl) rfl rfl (Bin.eql (k := .i64) (a := m) (b := n))) ?_
 refine TL.nil ?_
 refine T.cond (b := decide (m = n)) rfl (fun h1 => ?_) (fun h1 => ?_)
 ·
  replace h1 := of_decide_eq_true h1
  refine T.seq ?_
  refine T.seq ?_
  refine T.region ?_
  refine TL.cons rfl (Step.move (p := (.one (.d (.bool known)))) rfl rfl (lt_ok rfl) rfl) ?_
  refine TL.nil ?_
  refine T.cond (b := known) rfl (fun h2 => ?_) (fun h2 => ?_)
  ·
   refine T.seq ?_
   refine T.region ?_
   refine TL.cons rfl (Step.move (p := (.one (.d (.ints .u8 old)))) rfl rfl (lt_ok rfl) rfl) ?_
   refine TL.cons rfl (Step.move (p := (.one (.d (.ints .u8 old)))) rfl rfl (lt_ok rfl) rfl) ?_
   refine TL.cons rfl (Step.assign (p := (.one (.d (.ints .u8 old)))) rfl rfl (lt_ok rfl) rfl) ?_
   refine TL.cons rfl (Step.assign (p := (.one (.d (.ints .u8 old)))) rfl rfl (lt_ok rfl) rfl) ?_
   refine TL.nil ?_
   refine T.ret ?_
   refine ⟨[(false, [.d (.ints .u8 old)]), (false, [.d (.ints .u8 old)])], (.cons rfl (.cons rfl .nil)), rfl, [], (RetC.rd' ?_ (RetC.rd' ?_ .nil))⟩ <;> ((congr 1; first | (rw [cRoots_known (m := m) (n := n) (old := old) (proof := proof) (by omega) (by assumption)]; done) | (rw [cRoots_new (m := m) (n := n) (old := old) (proof := proof) (by omega) (by assumption)]; done) | (rw [cRoots_left (m := m) (n := n) (old := old) (proof := proof) (by omega) (by omega) (by omega)]; done) | (rw [cRoots_right (m := m) (n := n) (old := old) (proof := proof) (by omega) (by omega) (by omega)]; done)))
  ·
   refine T.skip ?_
   refine T.seq ?_
   refine T.draw [⟨25, (.one (.d (.bss proof))), []⟩, ⟨26, (.one (.eptr (.bss proof) 0 0)), []⟩, ⟨27, (.one (.d (.ints .u8 (proof.getD 0 [])))), []⟩, ⟨28, (.one (.d (.bss proof))), []⟩, ⟨29, (.one (.eptr (.bss proof) 0 0)), []⟩, ⟨30, (.one (.d (.ints .u8 (proof.getD 0 [])))), []⟩, ⟨10, (.one (.d (.ints .u8 (proof.getD 0 [])))), []⟩, ⟨11, (.one (.d (.ints .u8 (proof.getD 0 [])))), []⟩] (by kernel_rfl) (by kernel_rfl) ?_ ?_
   ·
    refine .cons (fun E hA_ => by have g3 := hA_.get 3 (by decide); exact OpStep.plain rfl (Step.move (p := (.one (.d (.bss proof)))) (t := 25) rfl rfl (by exact lt_ok rfl) (show Env.ev E (.tmp 3) = _ from g3.trans rfl))) ?_
    refine .cons (fun E hA_ => by have g25 := hA_.get 25 (by decide); exact OpStep.plain rfl (Step.index (e := 22) (z := 1) (i := 0) (t := 26) rfl rfl (by exact lt_ok rfl) (by kernel_rfl) (show Env.ev E (.tmp 25) = _ from g25.trans rfl) rfl rfl (lt_ok rfl) rfl (by first | omega | (simp; omega) | (have := hcl_ (by omega) (by omega) (by omega); omega) | (have := hcr_ (by omega) (by omega) (by omega); omega) | (have := hce_ (by omega); have := hfk_ (by assumption); omega)) (by simp only [D.size]; first | omega | (simp; omega) | (have := hcl_ (by omega) (by omega) (by omega); omega) | (have := hcr_ (by omega) (by omega) (by omega); omega) | (have := hce_ (by omega); have := hfk_ (by assumption); omega)))) ?_
    refine .cons (fun E hA_ => by have g26 := hA_.get 26 (by decide); exact OpStep.plain rfl (Step.load (e := (.ints .u8 (proof.getD 0 []))) (t := 27) rfl rfl (by exact lt_ok rfl) (by kernel_rfl) (show Env.ev E (.tmp 26) = _ from g26.trans rfl) rfl)) ?_
    refine .cons (fun E hA_ => by have g3 := hA_.get 3 (by decide); exact OpStep.plain rfl (Step.move (p := (.one (.d (.bss proof)))) (t := 28) rfl rfl (by exact lt_ok rfl) (show Env.ev E (.tmp 3) = _ from g3.trans rfl))) ?_
    refine .cons (fun E hA_ => by have g28 := hA_.get 28 (by decide); exact OpStep.plain rfl (Step.index (e := 22) (z := 1) (i := 0) (t := 29) rfl rfl (by exact lt_ok rfl) (by kernel_rfl) (show Env.ev E (.tmp 28) = _ from g28.trans rfl) rfl rfl (lt_ok rfl) rfl (by first | omega | (simp; omega) | (have := hcl_ (by omega) (by omega) (by omega); omega) | (have := hcr_ (by omega) (by omega) (by omega); omega) | (have := hce_ (by omega); have := hfk_ (by assumption); omega)) (by simp only [D.size]; first | omega | (simp; omega) | (have := hcl_ (by omega) (by omega) (by omega); omega) | (have := hcr_ (by omega) (by omega) (by omega); omega) | (have := hce_ (by omega); have := hfk_ (by assumption); omega)))) ?_
    refine .cons (fun E hA_ => by have g29 := hA_.get 29 (by decide); exact OpStep.plain rfl (Step.load (e := (.ints .u8 (proof.getD 0 []))) (t := 30) rfl rfl (by exact lt_ok rfl) (by kernel_rfl) (show Env.ev E (.tmp 29) = _ from g29.trans rfl) rfl)) ?_
    refine .cons (fun E hA_ => by have g27 := hA_.get 27 (by decide); exact OpStep.plain rfl (Step.assign (p := (.one (.d (.ints .u8 (proof.getD 0 []))))) (t := 10) rfl rfl (by exact lt_ok rfl) (show Env.ev E (.tmp 27) = _ from g27.trans rfl))) ?_
    refine .cons (fun E hA_ => by have g30 := hA_.get 30 (by decide); exact OpStep.plain rfl (Step.assign (p := (.one (.d (.ints .u8 (proof.getD 0 []))))) (t := 11) rfl rfl (by exact lt_ok rfl) (show Env.ev E (.tmp 30) = _ from g30.trans rfl))) ?_
    exact .nil _ _
   refine TL.nil ?_
   refine T.ret ?_
   refine ⟨[(false, [.d (.ints .u8 (proof.getD 0 []))]), (false, [.d (.ints .u8 (proof.getD 0 []))])], (.cons rfl (.cons rfl .nil)), rfl, [], (RetC.rd' ?_ (RetC.rd' ?_ .nil))⟩ <;> ((congr 1; first | (rw [cRoots_known (m := m) (n := n) (old := old) (proof := proof) (by omega) (by assumption)]; done) | (rw [cRoots_new (m := m) (n := n) (old := old) (proof := proof) (by omega) (by assumption)]; done) | (rw [cRoots_left (m := m) (n := n) (old := old) (proof := proof) (by omega) (by omega) (by omega)]; done) | (rw [cRoots_right (m := m) (n := n) (old := old) (proof := proof) (by omega) (by omega) (by omega)]; done)))
 ·
  replace h1 := of_decide_eq_false h1
  refine T.skip ?_
  refine T.seq ?_
  refine T.region ?_
  refine TL.cons rfl (Step.move (p := (.one (.d (.int .i64 n)))) rfl rfl (lt_ok rfl) rfl) ?_
  have nn3 := splitAtT_bd n
  refine TL.cons rfl (Step.call (f := 60) (xs := [.tmp 31]) (ps := [(.one (.d (.int .i64 n)))]) false (g := .func 60) rfl rfl (lt_ok rfl) rfl (by kernel_rfl) rfl (.cons (.one (.d _)) .nil) (ok_spec_SplitAt n (by first | omega | assumption | (simp only [List.length_append] at *; omega))) (.inr rfl) rfl (by simp) rfl) ?_
  refine TL.cons rfl (Step.assign (p := (.one (.d (.int .i64 (splitAtT n))))) rfl rfl (lt_ok rfl) rfl) ?_
  refine TL.nil ?_
  refine T.seq ?_
  refine T.region ?_
  refine TL.cons rfl (Step.move (p := (.one (.d (.bss proof)))) rfl rfl (lt_ok rfl) rfl) ?_
  refine TL.cons rfl (Step.len (e := 22) (z := 1) (d := (.bss proof)) rfl rfl (lt_ok rfl) (by kernel_rfl) rfl rfl) ?_
  refine TL.cons rfl (Step.bin (r := .int .i64 ((proof.length : Int) - 1)) rfl rfl (lt_ok rfl) rfl rfl (Bin.sub (a := (proof.length : Int)) (b := 1) (by first | exact wrap_ok (by first | omega | (simp; omega) | (have := hcl_ (by omega) (by omega) (by omega); omega) | (have := hcr_ (by omega) (by omega) (by omega); omega) | (have := hce_ (by omega); have := hfk_ (by assumption); omega)) (by first | omega | (simp; omega) | (have := hcl_ (by omega) (by omega) (by omega); omega) | (have := hcr_ (by omega) (by omega) (by omega); omega) | (have := hce_ (by omega); have := hfk_ (by assumption); omega)) | rfl))) ?_
  refine TL.cons rfl (Step.assign (p := (.one (.d (.int .i64 ((proof.length : Int) - 1))))) rfl rfl (lt_ok rfl) rfl) ?_
  refine TL.nil ?_
  refine T.seq ?_
  refine T.region ?_
  refine TL.cons rfl (Step.move (p := (.one (.d (.bss proof)))) rfl rfl (lt_ok rfl) rfl) ?_
  refine TL.cons rfl (Step.move (p := (.one (.d (.int .i64 ((proof.length : Int) - 1))))) rfl rfl (lt_ok rfl) rfl) ?_
  refine TL.cons rfl (Step.index (e := 22) (z := 1) (i := ((proof.length : Int) - 1)) rfl rfl (lt_ok rfl) (by kernel_rfl) rfl rfl rfl (lt_ok rfl) rfl (by first | omega | (simp; omega) | (have := hcl_ (by omega) (by omega) (by omega); omega) | (have := hcr_ (by omega) (by omega) (by omega); omega) | (have := hce_ (by omega); have := hfk_ (by assumption); omega)) (by simp only [D.size]; first | omega | (simp; omega) | (have := hcl_ (by omega) (by omega) (by omega); omega) | (have := hcr_ (by omega) (by omega) (by omega); omega) | (have := hce_ (by omega); have := hfk_ (by assumption); omega))) ?_
  refine TL.cons rfl (Step.load (e := (.ints .u8 (proof.getD ((proof.length : Int) - 1).toNat []))) rfl rfl (lt_ok rfl) (by kernel_rfl) rfl rfl) ?_
  refine TL.cons rfl (Step.assign (p := (.one (.d (.ints .u8 (proof.getD ((proof.length : Int) - 1).toNat []))))) rfl rfl (lt_ok rfl) rfl) ?_
  refine TL.nil ?_
  refine T.seq ?_
  refine T.seq ?_
  refine T.region ?_
  refine TL.cons rfl (Step.move (p := (.one (.d (.int .i64 m)))) rfl rfl (lt_ok rfl) rfl) ?_
  refine TL.cons rfl (Step.move (p := (.one (.d (.int .i64 (splitAtT n))))) rfl rfl (lt_ok rfl) rfl) ?_
  refine TL.cons rfl (Step.bin rfl rfl (lt_ok rfl) rfl rfl (Bin.leq (k := .i64) (a := m) (b := (splitAtT n)))) ?_
  refine TL.nil ?_
  refine T.cond (b := decide (m ≤ (splitAtT n))) rfl (fun h4 => ?_) (fun h4 => ?_)
  ·
   replace h4 := of_decide_eq_true h4
   refine T.seq ?_
   refine T.region ?_
   refine TL.cons rfl (Step.move (p := (.one (.d (.int .i64 m)))) rfl rfl (lt_ok rfl) rfl) ?_
   refine TL.cons rfl (Step.move (p := (.one (.d (.int .i64 (splitAtT n))))) rfl rfl (lt_ok rfl) rfl) ?_
   refine TL.cons rfl (Step.move (p := (.one (.d (.ints .u8 old)))) rfl rfl (lt_ok rfl) rfl) ?_
   refine TL.cons rfl (Step.move (p := (.one (.d (.bss proof)))) rfl rfl (lt_ok rfl) rfl) ?_
   refine TL.cons rfl (Step.move (p := (.one (.d (.int .i64 ((proof.length : Int) - 1))))) rfl rfl (lt_ok rfl) rfl) ?_
   refine TL.cons rfl (Step.slice (e := 22) (z := 1) (l := 0) (h := ((proof.length : Int) - 1).toNat) rfl rfl (lt_ok rfl) (by kernel_rfl) rfl rfl rfl (.none _) ((.some (i := ((proof.length : Int) - 1)) rfl (by first | omega | (simp; omega) | (have := hcl_ (by omega) (by omega) (by omega); omega) | (have := hcr_ (by omega) (by omega) (by omega); omega) | (have := hce_ (by omega); have := hfk_ (by assumption); omega)))) (by first | omega | (simp; omega) | (have := hcl_ (by omega) (by omega) (by omega); omega) | (have := hcr_ (by omega) (by omega) (by omega); omega) | (have := hce_ (by omega); have := hfk_ (by assumption); omega)) (by simp only [D.size]; first | omega | (simp; omega) | (have := hcl_ (by omega) (by omega) (by omega); omega) | (have := hcr_ (by omega) (by omega) (by omega); omega) | (have := hce_ (by omega); have := hfk_ (by assumption); omega)) rfl) ?_
   refine TL.cons rfl (Step.move (p := (.one (.d (.bool known)))) rfl rfl (lt_ok rfl) rfl) ?_
   have nn5 := @cRoots_len m (splitAtT n) old ((proof.drop 0).take (((proof.length : Int) - 1).toNat - 0)) known (by first | assumption | omega) (by first | assumption | exact mem_sub (by assumption) _ _ | exact s0.2)
   have nn6 := (@cRoots_u8 m (splitAtT n) old ((proof.drop 0).take (((proof.length : Int) - 1).toNat - 0)) known (by first | assumption | skip) (by first | assumption | exact mem_sub (by assumption) _ _ | exact s0.2)).1
   have nn7 := (@cRoots_u8 m (splitAtT n) old ((proof.drop 0).take (((proof.length : Int) - 1).toNat - 0)) known (by first | assumption | skip) (by first | assumption | exact mem_sub (by assumption) _ _ | exact s0.2)).2
   refine TL.cons rfl (Step.call (f := 75) (xs := [.tmp 44, .tmp 45, .tmp 46, .tmp 49, .tmp 50]) (ps := [(.one (.d (.int .i64 m))), (.one (.d (.int .i64 (splitAtT n)))), (.one (.d (.ints .u8 old))), (.one (.d (.bss ((proof.drop 0).take (((proof.length : Int) - 1).toNat - 0))))), (.one (.d (.bool known)))]) true (g := .func 75) rfl rfl (lt_ok rfl) rfl (by kernel_rfl) rfl (.cons (.one (.d _)) (.cons (.one (.d _)) (.cons (.one (.d _)) (.cons (.one (.d _)) (.cons (.one (.d _)) .nil))))) (ih (splitAtT n).toNat (by omega) m (splitAtT n) old ((proof.drop 0).take (((proof.length : Int) - 1).toNat - 0)) known rfl (by first | assumption | omega | exact of_decide_eq_true ‹sizesOk _ _ = true›) (by first | assumption | omega | (rw [← consLenT_yes (of_decide_eq_true ‹sizesOk _ _ = true›)]; omega) | (have := hcl_ (by omega) (by omega) (by omega); omega) | (have := hcr_ (by omega) (by omega) (by omega); omega)) (by first | assumption | exact sha_u8 _ | exact treeRoot_u8 _ | exact nodeHash_u8 _ _ | exact leafHash_u8 _ | exact u8_cons (by decide) (by assumption) | exact mem_getD (p := U8s) (by assumption) (by omega) | exact u8_app (u8_cons (by decide) (by assumption)) (by assumption) | exact fun x hx => by cases hx) (by first | assumption | exact mem_sub (by assumption) _ _ | exact s0.2) (by first | assumption | exact mem_sub (by assumption) _ _ | exact s0.2) (by first | omega | assumption | (simp only [List.length_append] at *; omega))) (.inl rfl) rfl (by simp) rfl) ?_
   refine TL.cons rfl (Step.move (p := (.tup [(false, [.d (.ints .u8 (cRoots m (splitAtT n) old ((proof.drop 0).take (((proof.length : Int) - 1).toNat - 0)) known).1)]), (false, [.d (.ints .u8 (cRoots m (splitAtT n) old ((proof.drop 0).take (((proof.length : Int) - 1).toNat - 0)) known).2)])])) rfl rfl (lt_ok rfl) rfl) ?_
   refine TL.cons rfl (Step.extract (p := (.one (.d (.ints .u8 (cRoots m (splitAtT n) old ((proof.drop 0).take (((proof.length : Int) - 1).toNat - 0)) known).1)))) rfl rfl (lt_ok rfl) rfl rfl) ?_
   refine TL.cons rfl (Step.extract (p := (.one (.d (.ints .u8 (cRoots m (splitAtT n) old ((proof.drop 0).take (((proof.length : Int) - 1).toNat - 0)) known).2)))) rfl rfl (lt_ok rfl) rfl rfl) ?_
   refine TL.cons rfl (Step.assign (p := (.one (.d (.ints .u8 (cRoots m (splitAtT n) old ((proof.drop 0).take (((proof.length : Int) - 1).toNat - 0)) known).1)))) rfl rfl (lt_ok rfl) rfl) ?_
   refine TL.cons rfl (Step.assign (p := (.one (.d (.ints .u8 (cRoots m (splitAtT n) old ((proof.drop 0).take (((proof.length : Int) - 1).toNat - 0)) known).2)))) rfl rfl (lt_ok rfl) rfl) ?_
   refine TL.nil ?_
   refine T.seq ?_
   refine T.region ?_
   refine TL.cons rfl (Step.move (p := (.one (.d (.ints .u8 (cRoots m (splitAtT n) old ((proof.drop 0).take (((proof.length : Int) - 1).toNat - 0)) known).1)))) rfl rfl (lt_ok rfl) rfl) ?_
   refine TL.cons rfl (Step.move (p := (.one (.d (.ints .u8 (cRoots m (splitAtT n) old ((proof.drop 0).take (((proof.length : Int) - 1).toNat - 0)) known).2)))) rfl rfl (lt_ok rfl) rfl) ?_
   refine TL.cons rfl (Step.move (p := (.one (.d (.ints .u8 (proof.getD ((proof.length : Int) - 1).toNat []))))) rfl rfl (lt_ok rfl) rfl) ?_
   have nn8 := nodeHash_len (cRoots m (splitAtT n) old ((proof.drop 0).take (((proof.length : Int) - 1).toNat - 0)) known).2 (proof.getD ((proof.length : Int) - 1).toNat [])
   have nn9 := nodeHash_u8 (cRoots m (splitAtT n) old ((proof.drop 0).take (((proof.length : Int) - 1).toNat - 0)) known).2 (proof.getD ((proof.length : Int) - 1).toNat [])
   refine TL.cons rfl (Step.call (f := 90) (xs := [.tmp 55, .tmp 56]) (ps := [(.one (.d (.ints .u8 (cRoots m (splitAtT n) old ((proof.drop 0).take (((proof.length : Int) - 1).toNat - 0)) known).2))), (.one (.d (.ints .u8 (proof.getD ((proof.length : Int) - 1).toNat []))))]) false (g := .func 90) rfl rfl (lt_ok rfl) rfl (by kernel_rfl) rfl (.cons (.one (.d _)) (.cons (.one (.d _)) .nil)) (ok_spec_NodeHash (cRoots m (splitAtT n) old ((proof.drop 0).take (((proof.length : Int) - 1).toNat - 0)) known).2 (proof.getD ((proof.length : Int) - 1).toNat []) (by first | assumption | exact sha_u8 _ | exact treeRoot_u8 _ | exact nodeHash_u8 _ _ | exact leafHash_u8 _ | exact u8_cons (by decide) (by assumption) | exact mem_getD (p := U8s) (by assumption) (by omega) | exact u8_app (u8_cons (by decide) (by assumption)) (by assumption) | exact fun x hx => by cases hx) (by first | assumption | exact sha_u8 _ | exact treeRoot_u8 _ | exact nodeHash_u8 _ _ | exact leafHash_u8 _ | exact u8_cons (by decide) (by assumption) | exact mem_getD (p := U8s) (by assumption) (by omega) | exact u8_app (u8_cons (by decide) (by assumption)) (by assumption) | exact fun x hx => by cases hx) (by first | omega | assumption | (simp only [List.length_append] at *; omega)) (by first | omega | assumption | (simp only [List.length_append] at *; omega))) (.inr rfl) rfl (by simp) rfl) ?_
   refine TL.cons rfl (Step.assign (p := (.one (.d (.ints .u8 (cRoots m (splitAtT n) old ((proof.drop 0).take (((proof.length : Int) - 1).toNat - 0)) known).1)))) rfl rfl (lt_ok rfl) rfl) ?_
   refine TL.cons rfl (Step.assign (p := (.one (.row 1057 []))) rfl rfl (lt_ok rfl) rfl) ?_
   refine TL.nil ?_
   refine T.freeze (r := 1057) rfl (fun _ h => h) ?_
   refine T.ret ?_
   refine ⟨[(false, [.d (.ints .u8 (cRoots m (splitAtT n) old ((proof.drop 0).take (((proof.length : Int) - 1).toNat - 0)) known).1)]), (false, [.d (.ints .u8 (nodeHash (cRoots m (splitAtT n) old ((proof.drop 0).take (((proof.length : Int) - 1).toNat - 0)) known).2 (proof.getD ((proof.length : Int) - 1).toNat [])))])], (.cons rfl (.cons rfl .nil)), rfl, [], (RetC.rd' ?_ (RetC.rd' ?_ .nil))⟩ <;> ((congr 1; first | (rw [cRoots_known (m := m) (n := n) (old := old) (proof := proof) (by omega) (by assumption)]; done) | (rw [cRoots_new (m := m) (n := n) (old := old) (proof := proof) (by omega) (by assumption)]; done) | (rw [cRoots_left (m := m) (n := n) (old := old) (proof := proof) (by omega) (by omega) (by omega)]; done) | (rw [cRoots_right (m := m) (n := n) (old := old) (proof := proof) (by omega) (by omega) (by omega)]; done)))
  ·
   replace h4 := of_decide_eq_false h4
   refine T.skip ?_
   refine T.seq ?_
   refine T.region ?_
   refine TL.cons rfl (Step.move (p := (.one (.d (.int .i64 m)))) rfl rfl (lt_ok rfl) rfl) ?_
   refine TL.cons rfl (Step.move (p := (.one (.d (.int .i64 (splitAtT n))))) rfl rfl (lt_ok rfl) rfl) ?_
   refine TL.cons rfl (Step.bin (r := .int .i64 (m - (splitAtT n))) rfl rfl (lt_ok rfl) rfl rfl (Bin.sub (a := m) (b := (splitAtT n)) (by first | exact wrap_ok (by first | omega | (simp; omega) | (have := hcl_ (by omega) (by omega) (by omega); omega) | (have := hcr_ (by omega) (by omega) (by omega); omega) | (have := hce_ (by omega); have := hfk_ (by assumption); omega)) (by first | omega | (simp; omega) | (have := hcl_ (by omega) (by omega) (by omega); omega) | (have := hcr_ (by omega) (by omega) (by omega); omega) | (have := hce_ (by omega); have := hfk_ (by assumption); omega)) | rfl))) ?_
   refine TL.cons rfl (Step.move (p := (.one (.d (.int .i64 n)))) rfl rfl (lt_ok rfl) rfl) ?_
   refine TL.cons rfl (Step.move (p := (.one (.d (.int .i64 (splitAtT n))))) rfl rfl (lt_ok rfl) rfl) ?_
   refine TL.cons rfl (Step.bin (r := .int .i64 (n - (splitAtT n))) rfl rfl (lt_ok rfl) rfl rfl (Bin.sub (a := n) (b := (splitAtT n)) (by first | exact wrap_ok (by first | omega | (simp; omega) | (have := hcl_ (by omega) (by omega) (by omega); omega) | (have := hcr_ (by omega) (by omega) (by omega); omega) | (have := hce_ (by omega); have := hfk_ (by assumption); omega)) (by first | omega | (simp; omega) | (have := hcl_ (by omega) (by omega) (by omega); omega) | (have := hcr_ (by omega) (by omega) (by omega); omega) | (have := hce_ (by omega); have := hfk_ (by assumption); omega)) | rfl))) ?_
   refine TL.cons rfl (Step.move (p := (.one (.d (.ints .u8 old)))) rfl rfl (lt_ok rfl) rfl) ?_
   refine TL.cons rfl (Step.move (p := (.one (.d (.bss proof)))) rfl rfl (lt_ok rfl) rfl) ?_
   refine TL.cons rfl (Step.move (p := (.one (.d (.int .i64 ((proof.length : Int) - 1))))) rfl rfl (lt_ok rfl) rfl) ?_
   refine TL.cons rfl (Step.slice (e := 22) (z := 1) (l := 0) (h := ((proof.length : Int) - 1).toNat) rfl rfl (lt_ok rfl) (by kernel_rfl) rfl rfl rfl (.none _) ((.some (i := ((proof.length : Int) - 1)) rfl (by first | omega | (simp; omega) | (have := hcl_ (by omega) (by omega) (by omega); omega) | (have := hcr_ (by omega) (by omega) (by omega); omega) | (have := hce_ (by omega); have := hfk_ (by assumption); omega)))) (by first | omega | (simp; omega) | (have := hcl_ (by omega) (by omega) (by omega); omega) | (have := hcr_ (by omega) (by omega) (by omega); omega) | (have := hce_ (by omega); have := hfk_ (by assumption); omega)) (by simp only [D.size]; first | omega | (simp; omega) | (have := hcl_ (by omega) (by omega) (by omega); omega) | (have := hcr_ (by omega) (by omega) (by omega); omega) | (have := hce_ (by omega); have := hfk_ (by assumption); omega)) rfl) ?_
   have nn10 := @cRoots_len (m - (splitAtT n)) (n - (splitAtT n)) old ((proof.drop 0).take (((proof.length : Int) - 1).toNat - 0)) false (by first | assumption | omega) (by first | assumption | exact mem_sub (by assumption) _ _ | exact s0.2)
   have nn11 := (@cRoots_u8 (m - (splitAtT n)) (n - (splitAtT n)) old ((proof.drop 0).take (((proof.length : Int) - 1).toNat - 0)) false (by first | assumption | skip) (by first | assumption | exact mem_sub (by assumption) _ _ | exact s0.2)).1
   have nn12 := (@cRoots_u8 (m - (splitAtT n)) (n - (splitAtT n)) old ((proof.drop 0).take (((proof.length : Int) - 1).toNat - 0)) false (by first | assumption | skip) (by first | assumption | exact mem_sub (by assumption) _ _ | exact s0.2)).2
   refine TL.cons rfl (Step.call (f := 75) (xs := [.tmp 61, .tmp 64, .tmp 65, .tmp 68, .const (.bool false)]) (ps := [(.one (.d (.int .i64 (m - (splitAtT n))))), (.one (.d (.int .i64 (n - (splitAtT n))))), (.one (.d (.ints .u8 old))), (.one (.d (.bss ((proof.drop 0).take (((proof.length : Int) - 1).toNat - 0))))), (.one (.d (.bool false)))]) true (g := .func 75) rfl rfl (lt_ok rfl) rfl (by kernel_rfl) rfl (.cons (.one (.d _)) (.cons (.one (.d _)) (.cons (.one (.d _)) (.cons (.one (.d _)) (.cons (.one (.d _)) .nil))))) (ih (n - (splitAtT n)).toNat (by omega) (m - (splitAtT n)) (n - (splitAtT n)) old ((proof.drop 0).take (((proof.length : Int) - 1).toNat - 0)) false rfl (by first | assumption | omega | exact of_decide_eq_true ‹sizesOk _ _ = true›) (by first | assumption | omega | (rw [← consLenT_yes (of_decide_eq_true ‹sizesOk _ _ = true›)]; omega) | (have := hcl_ (by omega) (by omega) (by omega); omega) | (have := hcr_ (by omega) (by omega) (by omega); omega)) (by first | assumption | exact sha_u8 _ | exact treeRoot_u8 _ | exact nodeHash_u8 _ _ | exact leafHash_u8 _ | exact u8_cons (by decide) (by assumption) | exact mem_getD (p := U8s) (by assumption) (by omega) | exact u8_app (u8_cons (by decide) (by assumption)) (by assumption) | exact fun x hx => by cases hx) (by first | assumption | exact mem_sub (by assumption) _ _ | exact s0.2) (by first | assumption | exact mem_sub (by assumption) _ _ | exact s0.2) (by first | omega | assumption | (simp only [List.length_append] at *; omega))) (.inl rfl) rfl (by simp) rfl) ?_
   refine TL.cons rfl (Step.move (p := (.tup [(false, [.d (.ints .u8 (cRoots (m - (splitAtT n)) (n - (splitAtT n)) old ((proof.drop 0).take (((proof.length : Int) - 1).toNat - 0)) false).1)]), (false, [.d (.ints .u8 (cRoots (m - (splitAtT n)) (n - (splitAtT n)) old ((proof.drop 0).take (((proof.length : Int) - 1).toNat - 0)) false).2)])])) rfl rfl (lt_ok rfl) rfl) ?_
   refine TL.cons rfl (Step.extract (p := (.one (.d (.ints .u8 (cRoots (m - (splitAtT n)) (n - (splitAtT n)) old ((proof.drop 0).take (((proof.length : Int) - 1).toNat - 0)) false).1)))) rfl rfl (lt_ok rfl) rfl rfl) ?_
   refine TL.cons rfl (Step.extract (p := (.one (.d (.ints .u8 (cRoots (m - (splitAtT n)) (n - (splitAtT n)) old ((proof.drop 0).take (((proof.length : Int) - 1).toNat - 0)) false).2)))) rfl rfl (lt_ok rfl) rfl rfl) ?_
   refine TL.cons rfl (Step.assign (p := (.one (.d (.ints .u8 (cRoots (m - (splitAtT n)) (n - (splitAtT n)) old ((proof.drop 0).take (((proof.length : Int) - 1).toNat - 0)) false).1)))) rfl rfl (lt_ok rfl) rfl) ?_
   refine TL.cons rfl (Step.assign (p := (.one (.d (.ints .u8 (cRoots (m - (splitAtT n)) (n - (splitAtT n)) old ((proof.drop 0).take (((proof.length : Int) - 1).toNat - 0)) false).2)))) rfl rfl (lt_ok rfl) rfl) ?_
   refine TL.nil ?_
   refine T.seq ?_
   refine T.region ?_
   refine TL.cons rfl (Step.move (p := (.one (.d (.ints .u8 (proof.getD ((proof.length : Int) - 1).toNat []))))) rfl rfl (lt_ok rfl) rfl) ?_
   refine TL.cons rfl (Step.move (p := (.one (.d (.ints .u8 (cRoots (m - (splitAtT n)) (n - (splitAtT n)) old ((proof.drop 0).take (((proof.length : Int) - 1).toNat - 0)) false).1)))) rfl rfl (lt_ok rfl) rfl) ?_
   have nn13 := nodeHash_len (proof.getD ((proof.length : Int) - 1).toNat []) (cRoots (m - (splitAtT n)) (n - (splitAtT n)) old ((proof.drop 0).take (((proof.length : Int) - 1).toNat - 0)) false).1
   have nn14 := nodeHash_u8 (proof.getD ((proof.length : Int) - 1).toNat []) (cRoots (m - (splitAtT n)) (n - (splitAtT n)) old ((proof.drop 0).take (((proof.length : Int) - 1).toNat - 0)) false).1
   refine TL.cons rfl (Step.call (f := 90) (xs := [.tmp 72, .tmp 73]) (ps := [(.one (.d (.ints .u8 (proof.getD ((proof.length : Int) - 1).toNat [])))), (.one (.d (.ints .u8 (cRoots (m - (splitAtT n)) (n - (splitAtT n)) old ((proof.drop 0).take (((proof.length : Int) - 1).toNat - 0)) false).1)))]) false (g := .func 90) rfl rfl (lt_ok rfl) rfl (by kernel_rfl) rfl (.cons (.one (.d _)) (.cons (.one (.d _)) .nil)) (ok_spec_NodeHash (proof.getD ((proof.length : Int) - 1).toNat []) (cRoots (m - (splitAtT n)) (n - (splitAtT n)) old ((proof.drop 0).take (((proof.length : Int) - 1).toNat - 0)) false).1 (by first | assumption | exact sha_u8 _ | exact treeRoot_u8 _ | exact nodeHash_u8 _ _ | exact leafHash_u8 _ | exact u8_cons (by decide) (by assumption) | exact mem_getD (p := U8s) (by assumption) (by omega) | exact u8_app (u8_cons (by decide) (by assumption)) (by assumption) | exact fun x hx => by cases hx) (by first | assumption | exact sha_u8 _ | exact treeRoot_u8 _ | exact nodeHash_u8 _ _ | exact leafHash_u8 _ | exact u8_cons (by decide) (by assumption) | exact mem_getD (p := U8s) (by assumption) (by omega) | exact u8_app (u8_cons (by decide) (by assumption)) (by assumption) | exact fun x hx => by cases hx) (by first | omega | assumption | (simp only [List.length_append] at *; omega)) (by first | omega | assumption | (simp only [List.length_append] at *; omega))) (.inr rfl) rfl (by simp) rfl) ?_
   refine TL.cons rfl (Step.move (p := (.one (.d (.ints .u8 (proof.getD ((proof.length : Int) - 1).toNat []))))) rfl rfl (lt_ok rfl) rfl) ?_
   refine TL.cons rfl (Step.move (p := (.one (.d (.ints .u8 (cRoots (m - (splitAtT n)) (n - (splitAtT n)) old ((proof.drop 0).take (((proof.length : Int) - 1).toNat - 0)) false).2)))) rfl rfl (lt_ok rfl) rfl) ?_
   have nn15 := nodeHash_len (proof.getD ((proof.length : Int) - 1).toNat []) (cRoots (m - (splitAtT n)) (n - (splitAtT n)) old ((proof.drop 0).take (((proof.length : Int) - 1).toNat - 0)) false).2
   have nn16 := nodeHash_u8 (proof.getD ((proof.length : Int) - 1).toNat []) (cRoots (m - (splitAtT n)) (n - (splitAtT n)) old ((proof.drop 0).take (((proof.length : Int) - 1).toNat - 0)) false).2
   refine TL.cons rfl (Step.call (f := 90) (xs := [.tmp 75, .tmp 76]) (ps := [(.one (.d (.ints .u8 (proof.getD ((proof.length : Int) - 1).toNat [])))), (.one (.d (.ints .u8 (cRoots (m - (splitAtT n)) (n - (splitAtT n)) old ((proof.drop 0).take (((proof.length : Int) - 1).toNat - 0)) false).2)))]) false (g := .func 90) rfl rfl (lt_ok rfl) rfl (by kernel_rfl) rfl (.cons (.one (.d _)) (.cons (.one (.d _)) .nil)) (ok_spec_NodeHash (proof.getD ((proof.length : Int) - 1).toNat []) (cRoots (m - (splitAtT n)) (n - (splitAtT n)) old ((proof.drop 0).take (((proof.length : Int) - 1).toNat - 0)) false).2 (by first | assumption | exact sha_u8 _ | exact treeRoot_u8 _ | exact nodeHash_u8 _ _ | exact leafHash_u8 _ | exact u8_cons (by decide) (by assumption) | exact mem_getD (p := U8s) (by assumption) (by omega) | exact u8_app (u8_cons (by decide) (by assumption)) (by assumption) | exact fun x hx => by cases hx) (by first | assumption | exact sha_u8 _ | exact treeRoot_u8 _ | exact nodeHash_u8 _ _ | exact leafHash_u8 _ | exact u8_cons (by decide) (by assumption) | exact mem_getD (p := U8s) (by assumption) (by omega) | exact u8_app (u8_cons (by decide) (by assumption)) (by assumption) | exact fun x hx => by cases hx) (by first | omega | assumption | (simp only [List.length_append] at *; omega)) (by first | omega | assumption | (simp only [List.length_append] at *; omega))) (.inr rfl) rfl (by simp) rfl) ?_
   refine TL.cons rfl (Step.assign (p := (.one (.row 1074 []))) rfl rfl (lt_ok rfl) rfl) ?_
   refine TL.cons rfl (Step.assign (p := (.one (.row 1077 []))) rfl rfl (lt_ok rfl) rfl) ?_
   refine TL.nil ?_
   refine T.freeze (r := 1074) rfl (fun _ h => h) ?_
   refine T.freeze (r := 1077) rfl (fun _ h => h) ?_
   refine T.ret ?_
   refine ⟨[(false, [.d (.ints .u8 (nodeHash (proof.getD ((proof.length : Int) - 1).toNat []) (cRoots (m - (splitAtT n)) (n - (splitAtT n)) old ((proof.drop 0).take (((proof.length : Int) - 1).toNat - 0)) false).1))]), (false, [.d (.ints .u8 (nodeHash (proof.getD ((proof.length : Int) - 1).toNat []) (cRoots (m - (splitAtT n)) (n - (splitAtT n)) old ((proof.drop 0).take (((proof.length : Int) - 1).toNat - 0)) false).2))])], (.cons rfl (.cons rfl .nil)), rfl, [], (RetC.rd' ?_ (RetC.rd' ?_ .nil))⟩ <;> ((congr 1; first | (rw [cRoots_known (m := m) (n := n) (old := old) (proof := proof) (by omega) (by assumption)]; done) | (rw [cRoots_new (m := m) (n := n) (old := old) (proof := proof) (by omega) (by assumption)]; done) | (rw [cRoots_left (m := m) (n := n) (old := old) (proof := proof) (by omega) (by omega) (by omega)]; done) | (rw [cRoots_right (m := m) (n := n) (old := old) (proof := proof) (by omega) (by omega) (by omega)]; done)))
theorem ok_spec_l09Roots (m : Int) (n : Int) (old : List Int) (proof : List (List Int)) (known : Bool) (h0_ : 1 ≤ m ∧ m ≤ n ∧ n ≤ 1048576) (h1_ : (proof.length : Int) = cLen m n known) (h2_ : U8s old) (h3_ : ∀ y ∈ proof, U8s y) (h4_ : ∀ y ∈ proof, y.length ≤ 1048576) (h5_ : old.length ≤ 1048576) : RO Try.prog 75 [.one (.int .i64 m), .one (.int .i64 n), .one (.ints .u8 old), .one (.bss proof), .one (.bool known)] [(false, [.rd (.ints .u8 (cRoots m n old proof known).1)]), (false, [.rd (.ints .u8 (cRoots m n old proof known).2)])] := ok_spec_l09Roots_r _ m n old proof known rfl h0_ h1_ h2_ h3_ h4_ h5_
theorem ok_spec_ConsRoots (m : Int) (n : Int) (old : List Int) (proof : List (List Int)) (h0_ : U8s old) (h1_ : ∀ y ∈ proof, U8s y) (h2_ : ∀ y ∈ proof, y.length ≤ 1048576) (h3_ : old.length ≤ 1048576) : RO Try.prog 36 [.one (.int .i64 m), .one (.int .i64 n), .one (.ints .u8 old), .one (.bss proof)] [(false, [.own 5 (.ints .u8 (consRootsT m n old proof).1)]), (false, [.own 5 (.ints .u8 (consRootsT m n old proof).2)]), (false, [.rd (.bool (consFits m n old proof))])] := by
 refine RO.intro Try.func36 rfl 47 rfl (le_ok rfl) fun w Z => ?_
 refine T.bnd 2 0 rfl rfl fun hb_2_0 => ?_
 simp only [D.size, List.length_map] at hb_2_0
 refine T.bnd 3 0 rfl rfl fun hb_3_0 => ?_
 simp only [D.size, List.length_map] at hb_3_0
 have hz_ : sizesOk m n = true → 1 ≤ m ∧ m ≤ n ∧ n ≤ 1048576 := of_decide_eq_true
 have hcy_ := @consLenT_yes m n
 refine T.seq ?_
 refine T.region ?_
 refine TL.cons rfl (Step.assign (p := (.one (.nil))) rfl rfl (lt_ok rfl) rfl) ?_
 refine TL.cons rfl (Step.assign (p := (.one (.nil))) rfl rfl (lt_ok rfl) rfl) ?_
 refine TL.cons rfl (Step.assign (p := (.one (.d (.bool false)))) rfl rfl (lt_ok rfl) rfl) ?_
 refine TL.nil ?_
 refine T.seq ?_
 refine T.seq ?_
 refine T.region ?_
 refine TL.cons rfl (Step.move (p := (.one (.d (.int .i64 m)))) rfl rfl (lt_ok rfl) rfl) ?_
 refine TL.cons rfl (Step.move (p := (.one (.d (.int .i64 n)))) rfl rfl (lt_ok rfl) rfl) ?_
 refine TL.cons rfl (Step.call (f := 73) (xs := [.tmp 13, .tmp 14]) (ps := [(.one (.d (.int .i64 m))), (.one (.d (.int .i64 n)))]) false (g := .func 73) rfl rfl (lt_ok rfl) rfl (by kernel_rfl) rfl (.cons (.one (.d _)) (.cons (.one (.d _)) .nil)) (ok_spec_l09In m n) (.inr rfl) rfl (by simp) rfl) ?_
 refine TL.cons rfl (Step.not (b := (sizesOk m n)) rfl rfl (lt_ok rfl) rfl) ?_
 refine TL.cons rfl (Step.move (p := (.one (.d (.bool (!(sizesOk m n)))))) rfl rfl (lt_ok rfl) rfl) ?_
 rcases Bool.eq_false_or_eq_true (!(sizesOk m n)) with hb1 | hb1
 ·
  refine TL.known 17 hb1 rfl ?_
  have hb1' := hb1
  replace hb1' : (sizesOk m n) = false := by simpa only [Bool.not_eq_true', Bool.not_eq_false'] using hb1'
  refine TL.goff 17 rfl rfl (lt_ok rfl) rfl rfl rfl (lt_ok rfl) ?_
  refine TL.goff 17 rfl rfl (lt_ok rfl) rfl rfl rfl (lt_ok rfl) ?_
  refine TL.goff 17 rfl rfl (lt_ok rfl) rfl rfl rfl (lt_ok rfl) ?_
  refine TL.cons rfl (Step.pick (b := true) (p := (.one (.d (.bool true)))) rfl rfl (lt_ok rfl) rfl rfl) ?_
  refine TL.cons rfl (Step.move (p := (.one (.d (.bool true)))) rfl rfl (lt_ok rfl) rfl) ?_
  refine TL.goff 22 rfl rfl (lt_ok rfl) rfl rfl rfl (lt_ok rfl) ?_
  refine TL.goff 22 rfl rfl (lt_ok rfl) rfl rfl rfl (lt_ok rfl) ?_
  refine TL.goff 22 rfl rfl (lt_ok rfl) rfl rfl rfl (lt_ok rfl) ?_
  refine TL.goff 22 rfl rfl (lt_ok rfl) rfl rfl rfl (lt_ok rfl) ?_
  refine TL.goff 22 rfl rfl (lt_ok rfl) rfl rfl rfl (lt_ok rfl) ?_
  refine TL.goff 22 rfl rfl (lt_ok rfl) rfl rfl rfl (lt_ok rfl) ?_
  refine TL.cons rfl (Step.pick (b := true) (p := (.one (.d (.bool true)))) rfl rfl (lt_ok rfl) rfl rfl) ?_
  refine TL.cons rfl (Step.move (p := (.one (.d (.bool true)))) rfl rfl (lt_ok rfl) rfl) ?_
  refine TL.goff 30 rfl rfl (lt_ok rfl) rfl rfl rfl (lt_ok rfl) ?_
  refine TL.goff 30 rfl rfl (lt_ok rfl) rfl rfl rfl (lt_ok rfl) ?_
  refine TL.goff 30 rfl rfl (lt_ok rfl) rfl rfl rfl (lt_ok rfl) ?_
  refine TL.cons rfl (Step.pick (b := true) (p := (.one (.d (.bool true)))) rfl rfl (lt_ok rfl) rfl rfl) ?_
  refine TL.nil ?_
  refine T.cond (b := true) rfl (fun h2_ => ?_) (fun h2_ => absurd h2_ (by simp))
  refine T.seq ?_
  refine T.region ?_
  refine TL.cons rfl (Step.assign (p := (.one (.nil))) rfl rfl (lt_ok rfl) rfl) ?_
  refine TL.cons rfl (Step.assign (p := (.one (.nil))) rfl rfl (lt_ok rfl) rfl) ?_
  refine TL.cons rfl (Step.assign (p := (.one (.d (.bool false)))) rfl rfl (lt_ok rfl) rfl) ?_
  refine TL.nil ?_
  refine T.ret ?_
  refine ⟨[(false, [.nil]), (false, [.nil]), (false, [.d (.bool false)])], (.cons rfl (.cons rfl (.cons rfl .nil))), rfl, [], (RetC.nilown' rfl ?_ (by first | exact trivial | exact D.wf_nil _) (RetC.nilown' rfl ?_ (by first | exact trivial | exact D.wf_nil _) (RetC.rd' ?_ .nil)))⟩ <;> (first | (show (consRootsT m n old proof).1.length = 0; rw [consRootsT_no (Bool.eq_false_iff.2 fun hq_ => by obtain ⟨q1_, q2_, q3_, q4_⟩ := consFits_all hq_; first | omega | exact bool_ne q1_ (by assumption) | exact bool_ne q4_ (by assumption) | (have h_ := ‹hashes [old] = false›; rw [hashes_one] at h_; exact of_decide_eq_false h_ q2_) | (simp_all; done))]; rfl) | (show (consRootsT m n old proof).2.length = 0; rw [consRootsT_no (Bool.eq_false_iff.2 fun hq_ => by obtain ⟨q1_, q2_, q3_, q4_⟩ := consFits_all hq_; first | omega | exact bool_ne q1_ (by assumption) | exact bool_ne q4_ (by assumption) | (have h_ := ‹hashes [old] = false›; rw [hashes_one] at h_; exact of_decide_eq_false h_ q2_) | (simp_all; done))]; rfl) | (congr 1; first | (rw [consRootsT_yes (consFits_mk (m := m) (n := n) (old := old) (proof := proof) (by assumption) (by first | omega | (have h_ := ‹hashes [old] = true›; rw [hashes_one] at h_; exact of_decide_eq_true h_)) (by omega) (by assumption))]; done) | (symm; exact (Bool.eq_false_iff.2 fun hq_ => by obtain ⟨q1_, q2_, q3_, q4_⟩ := consFits_all hq_; first | omega | exact bool_ne q1_ (by assumption) | exact bool_ne q4_ (by assumption) | (have h_ := ‹hashes [old] = false›; rw [hashes_one] at h_; exact of_decide_eq_false h_ q2_) | (simp_all; done))) | (symm; exact (consFits_mk (m := m) (n := n) (old := old) (proof := proof) (by assumption) (by first | omega | (have h_ := ‹hashes [old] = true›; rw [hashes_one] at h_; exact of_decide_eq_true h_)) (by omega) (by assumption)))))
 ·
  refine TL.known 17 hb1 rfl ?_
  have hb1' := hb1
  replace hb1' : (sizesOk m n) = true := by simpa only [Bool.not_eq_true', Bool.not_eq_false'] using hb1'
  refine TL.gyes 17 rfl rfl (lt_ok rfl) rfl (Step.move (p := (.one (.d (.ints .u8 old)))) rfl rfl (lt_ok rfl) rfl) ?_
  refine TL.gyes 17 rfl rfl (lt_ok rfl) rfl (Step.call (f := 65) (xs := [.tmp 18]) (ps := [(.one (.d (.ints .u8 old)))]) false (g := .func 65) rfl rfl (lt_ok rfl) rfl (by kernel_rfl) rfl (.cons (.one (.d _)) .nil) (ok_spec_l07Hash old) (.inr rfl) rfl (by simp) rfl) ?_
  refine TL.gyes 17 rfl rfl (lt_ok rfl) rfl (Step.not (b := (decide ((old.length : Int) = 32))) rfl rfl (lt_ok rfl) rfl) ?_
  refine TL.cons rfl (Step.pick (b := false) (p := (.one (.d (.bool (!(decide ((old.length : Int) = 32))))))) rfl rfl (lt_ok rfl) rfl rfl) ?_
  refine TL.cons rfl (Step.move (p := (.one (.d (.bool (!(decide ((old.length : Int) = 32))))))) rfl rfl (lt_ok rfl) rfl) ?_
  rcases Bool.eq_false_or_eq_true (!(decide ((old.length : Int) = 32))) with hb3 | hb3
  ·
   refine TL.known 22 hb3 rfl ?_
   have hb3' := hb3
   replace hb3' : (decide ((old.length : Int) = 32)) = false := by simpa only [Bool.not_eq_true', Bool.not_eq_false'] using hb3'
   replace hb3' := of_decide_eq_false hb3'
   refine TL.goff 22 rfl rfl (lt_ok rfl) rfl rfl rfl (lt_ok rfl) ?_
   refine TL.goff 22 rfl rfl (lt_ok rfl) rfl rfl rfl (lt_ok rfl) ?_
   refine TL.goff 22 rfl rfl (lt_ok rfl) rfl rfl rfl (lt_ok rfl) ?_
   refine TL.goff 22 rfl rfl (lt_ok rfl) rfl rfl rfl (lt_ok rfl) ?_
   refine TL.goff 22 rfl rfl (lt_ok rfl) rfl rfl rfl (lt_ok rfl) ?_
   refine TL.goff 22 rfl rfl (lt_ok rfl) rfl rfl rfl (lt_ok rfl) ?_
   refine TL.cons rfl (Step.pick (b := true) (p := (.one (.d (.bool true)))) rfl rfl (lt_ok rfl) rfl rfl) ?_
   refine TL.cons rfl (Step.move (p := (.one (.d (.bool true)))) rfl rfl (lt_ok rfl) rfl) ?_
   refine TL.goff 30 rfl rfl (lt_ok rfl) rfl rfl rfl (lt_ok rfl) ?_
   refine TL.goff 30 rfl rfl (lt_ok rfl) rfl rfl rfl (lt_ok rfl) ?_
   refine TL.goff 30 rfl rfl (lt_ok rfl) rfl rfl rfl (lt_ok rfl) ?_
   refine TL.cons rfl (Step.pick (b := true) (p := (.one (.d (.bool true)))) rfl rfl (lt_ok rfl) rfl rfl) ?_
   refine TL.nil ?_
   refine T.cond (b := true) rfl (fun h4_ => ?_) (fun h4_ => absurd h4_ (by simp))
   refine T.seq ?_
   refine T.region ?_
   refine TL.cons rfl (Step.assign (p := (.one (.nil))) rfl rfl (lt_ok rfl) rfl) ?_
   refine TL.cons rfl (Step.assign (p := (.one (.nil))) rfl rfl (lt_ok rfl) rfl) ?_
   refine TL.cons rfl (Step.assign (p := (.one (.d (.bool false)))) rfl rfl (lt_ok rfl) rfl) ?_
   refine TL.nil ?_
   refine T.ret ?_
   refine ⟨[(false, [.nil]), (false, [.nil]), (false, [.d (.bool false)])], (.cons rfl (.cons rfl (.cons rfl .nil))), rfl, [], (RetC.nilown' rfl ?_ (by first | exact trivial | exact D.wf_nil _) (RetC.nilown' rfl ?_ (by first | exact trivial | exact D.wf_nil _) (RetC.rd' ?_ .nil)))⟩ <;> (first | (show (consRootsT m n old proof).1.length = 0; rw [consRootsT_no (Bool.eq_false_iff.2 fun hq_ => by obtain ⟨q1_, q2_, q3_, q4_⟩ := consFits_all hq_; first | omega | exact bool_ne q1_ (by assumption) | exact bool_ne q4_ (by assumption) | (have h_ := ‹hashes [old] = false›; rw [hashes_one] at h_; exact of_decide_eq_false h_ q2_) | (simp_all; done))]; rfl) | (show (consRootsT m n old proof).2.length = 0; rw [consRootsT_no (Bool.eq_false_iff.2 fun hq_ => by obtain ⟨q1_, q2_, q3_, q4_⟩ := consFits_all hq_; first | omega | exact bool_ne q1_ (by assumption) | exact bool_ne q4_ (by assumption) | (have h_ := ‹hashes [old] = false›; rw [hashes_one] at h_; exact of_decide_eq_false h_ q2_) | (simp_all; done))]; rfl) | (congr 1; first | (rw [consRootsT_yes (consFits_mk (m := m) (n := n) (old := old) (proof := proof) (by assumption) (by first | omega | (have h_ := ‹hashes [old] = true›; rw [hashes_one] at h_; exact of_decide_eq_true h_)) (by omega) (by assumption))]; done) | (symm; exact (Bool.eq_false_iff.2 fun hq_ => by obtain ⟨q1_, q2_, q3_, q4_⟩ := consFits_all hq_; first | omega | exact bool_ne q1_ (by assumption) | exact bool_ne q4_ (by assumption) | (have h_ := ‹hashes [old] = false›; rw [hashes_one] at h_; exact of_decide_eq_false h_ q2_) | (simp_all; done))) | (symm; exact (consFits_mk (m := m) (n := n) (old := old) (proof := proof) (by assumption) (by first | omega | (have h_ := ‹hashes [old] = true›; rw [hashes_one] at h_; exact of_decide_eq_true h_)) (by omega) (by assumption)))))
  ·
   refine TL.known 22 hb3 rfl ?_
   have hb3' := hb3
   replace hb3' : (decide ((old.length : Int) = 32)) = true := by simpa only [Bool.not_eq_true', Bool.not_eq_false'] using hb3'
   replace hb3' := of_decide_eq_true hb3'
   refine TL.gyes 22 rfl rfl (lt_ok rfl) rfl (Step.move (p := (.one (.d (.bss proof)))) rfl rfl (lt_ok rfl) rfl) ?_
   refine TL.gyes 22 rfl rfl (lt_ok rfl) rfl (Step.len (e := 22) (z := 1) (d := (.bss proof)) rfl rfl (lt_ok rfl) (by kernel_rfl) rfl rfl) ?_
   refine TL.gyes 22 rfl rfl (lt_ok rfl) rfl (Step.move (p := (.one (.d (.int .i64 m)))) rfl rfl (lt_ok rfl) rfl) ?_
   refine TL.gyes 22 rfl rfl (lt_ok rfl) rfl (Step.move (p := (.one (.d (.int .i64 n)))) rfl rfl (lt_ok rfl) rfl) ?_
   refine TL.gyes 22 rfl rfl (lt_ok rfl) rfl (Step.call (f := 74) (xs := [.tmp 25, .tmp 26]) (ps := [(.one (.d (.int .i64 m))), (.one (.d (.int .i64 n)))]) false (g := .func 74) rfl rfl (lt_ok rfl) rfl (by kernel_rfl) rfl (.cons (.one (.d _)) (.cons (.one (.d _)) .nil)) (ok_spec_ConsLen m n) (.inr rfl) rfl (by simp) rfl) ?_
   refine TL.gyes 22 rfl rfl (lt_ok rfl) rfl (Step.bin rfl rfl (lt_ok rfl) rfl rfl (Bin.neq (k := .i64) (a := (proof.length : Int)) (b := (consLenT m n)))) ?_
   refine TL.cons rfl (Step.pick (b := false) (p := (.one (.d (.bool (decide ((proof.length : Int) ≠ (consLenT m n))))))) rfl rfl (lt_ok rfl) rfl rfl) ?_
   refine TL.cons rfl (Step.move (p := (.one (.d (.bool (decide ((proof.length : Int) ≠ (consLenT m n))))))) rfl rfl (lt_ok rfl) rfl) ?_
   rcases Bool.eq_false_or_eq_true (decide ((proof.length : Int) ≠ (consLenT m n))) with hb5 | hb5
   ·
    refine TL.known 30 hb5 rfl ?_
    have hb5' := hb5
    replace hb5' := of_decide_eq_true hb5'
    refine TL.goff 30 rfl rfl (lt_ok rfl) rfl rfl rfl (lt_ok rfl) ?_
    refine TL.goff 30 rfl rfl (lt_ok rfl) rfl rfl rfl (lt_ok rfl) ?_
    refine TL.goff 30 rfl rfl (lt_ok rfl) rfl rfl rfl (lt_ok rfl) ?_
    refine TL.cons rfl (Step.pick (b := true) (p := (.one (.d (.bool true)))) rfl rfl (lt_ok rfl) rfl rfl) ?_
    refine TL.nil ?_
    refine T.cond (b := true) rfl (fun h6_ => ?_) (fun h6_ => absurd h6_ (by simp))
    refine T.seq ?_
    refine T.region ?_
    refine TL.cons rfl (Step.assign (p := (.one (.nil))) rfl rfl (lt_ok rfl) rfl) ?_
    refine TL.cons rfl (Step.assign (p := (.one (.nil))) rfl rfl (lt_ok rfl) rfl) ?_
    refine TL.cons rfl (Step.assign (p := (.one (.d (.bool false)))) rfl rfl (lt_ok rfl) rfl) ?_
    refine TL.nil ?_
    refine T.ret ?_
    refine ⟨[(false, [.nil]), (false, [.nil]), (false, [.d (.bool false)])], (.cons rfl (.cons rfl (.cons rfl .nil))), rfl, [], (RetC.nilown' rfl ?_ (by first | exact trivial | exact D.wf_nil _) (RetC.nilown' rfl ?_ (by first | exact trivial | exact D.wf_nil _) (RetC.rd' ?_ .nil)))⟩ <;> (first | (show (consRootsT m n old proof).1.length = 0; rw [consRootsT_no (Bool.eq_false_iff.2 fun hq_ => by obtain ⟨q1_, q2_, q3_, q4_⟩ := consFits_all hq_; first | omega | exact bool_ne q1_ (by assumption) | exact bool_ne q4_ (by assumption) | (have h_ := ‹hashes [old] = false›; rw [hashes_one] at h_; exact of_decide_eq_false h_ q2_) | (simp_all; done))]; rfl) | (show (consRootsT m n old proof).2.length = 0; rw [consRootsT_no (Bool.eq_false_iff.2 fun hq_ => by obtain ⟨q1_, q2_, q3_, q4_⟩ := consFits_all hq_; first | omega | exact bool_ne q1_ (by assumption) | exact bool_ne q4_ (by assumption) | (have h_ := ‹hashes [old] = false›; rw [hashes_one] at h_; exact of_decide_eq_false h_ q2_) | (simp_all; done))]; rfl) | (congr 1; first | (rw [consRootsT_yes (consFits_mk (m := m) (n := n) (old := old) (proof := proof) (by assumption) (by first | omega | (have h_ := ‹hashes [old] = true›; rw [hashes_one] at h_; exact of_decide_eq_true h_)) (by omega) (by assumption))]; done) | (symm; exact (Bool.eq_false_iff.2 fun hq_ => by obtain ⟨q1_, q2_, q3_, q4_⟩ := consFits_all hq_; first | omega | exact bool_ne q1_ (by assumption) | exact bool_ne q4_ (by assumption) | (have h_ := ‹hashes [old] = false›; rw [hashes_one] at h_; exact of_decide_eq_false h_ q2_) | (simp_all; done))) | (symm; exact (consFits_mk (m := m) (n := n) (old := old) (proof := proof) (by assumption) (by first | omega | (have h_ := ‹hashes [old] = true›; rw [hashes_one] at h_; exact of_decide_eq_true h_)) (by omega) (by assumption)))))
   ·
    refine TL.known 30 hb5 rfl ?_
    have hb5' := hb5
    replace hb5' := of_decide_eq_false hb5'
    refine TL.gyes 30 rfl rfl (lt_ok rfl) rfl (Step.move (p := (.one (.d (.bss proof)))) rfl rfl (lt_ok rfl) rfl) ?_
    refine TL.gyes 30 rfl rfl (lt_ok rfl) rfl (Step.call (f := 68) (xs := [.tmp 31]) (ps := [(.one (.d (.bss proof)))]) false (g := .func 68) rfl rfl (lt_ok rfl) rfl (by kernel_rfl) rfl (.cons (.one (.d _)) .nil) (ok_spec_l08Hashes proof) (.inr rfl) rfl (by simp) rfl) ?_
    refine TL.gyes 30 rfl rfl (lt_ok rfl) rfl (Step.not (b := (hashes proof)) rfl rfl (lt_ok rfl) rfl) ?_
    refine TL.cons rfl (Step.pick (b := false) (p := (.one (.d (.bool (!(hashes proof)))))) rfl rfl (lt_ok rfl) rfl rfl) ?_
    refine TL.nil ?_
    refine T.cond (b := !(hashes proof)) rfl (fun h7 => ?_) (fun h7 => ?_)
    ·
     replace h7 : (hashes proof) = false := by simpa only [Bool.not_eq_true', Bool.not_eq_false'] using h7
     refine T.seq ?_
     refine T.region ?_
     refine TL.cons rfl (Step.assign (p := (.one (.nil))) rfl rfl (lt_ok rfl) rfl) ?_
     refine TL.cons rfl (Step.assign (p := (.one (.nil))) rfl rfl (lt_ok rfl) rfl) ?_
     refine TL.cons rfl (Step.assign (p := (.one (.d (.bool false)))) rfl rfl (lt_ok rfl) rfl) ?_
     refine TL.nil ?_
     refine T.ret ?_
     refine ⟨[(false, [.nil]), (false, [.nil]), (false, [.d (.bool false)])], (.cons rfl (.cons rfl (.cons rfl .nil))), rfl, [], (RetC.nilown' rfl ?_ (by first | exact trivial | exact D.wf_nil _) (RetC.nilown' rfl ?_ (by first | exact trivial | exact D.wf_nil _) (RetC.rd' ?_ .nil)))⟩ <;> (first | (show (consRootsT m n old proof).1.length = 0; rw [consRootsT_no (Bool.eq_false_iff.2 fun hq_ => by obtain ⟨q1_, q2_, q3_, q4_⟩ := consFits_all hq_; first | omega | exact bool_ne q1_ (by assumption) | exact bool_ne q4_ (by assumption) | (have h_ := ‹hashes [old] = false›; rw [hashes_one] at h_; exact of_decide_eq_false h_ q2_) | (simp_all; done))]; rfl) | (show (consRootsT m n old proof).2.length = 0; rw [consRootsT_no (Bool.eq_false_iff.2 fun hq_ => by obtain ⟨q1_, q2_, q3_, q4_⟩ := consFits_all hq_; first | omega | exact bool_ne q1_ (by assumption) | exact bool_ne q4_ (by assumption) | (have h_ := ‹hashes [old] = false›; rw [hashes_one] at h_; exact of_decide_eq_false h_ q2_) | (simp_all; done))]; rfl) | (congr 1; first | (rw [consRootsT_yes (consFits_mk (m := m) (n := n) (old := old) (proof := proof) (by assumption) (by first | omega | (have h_ := ‹hashes [old] = true›; rw [hashes_one] at h_; exact of_decide_eq_true h_)) (by omega) (by assumption))]; done) | (symm; exact (Bool.eq_false_iff.2 fun hq_ => by obtain ⟨q1_, q2_, q3_, q4_⟩ := consFits_all hq_; first | omega | exact bool_ne q1_ (by assumption) | exact bool_ne q4_ (by assumption) | (have h_ := ‹hashes [old] = false›; rw [hashes_one] at h_; exact of_decide_eq_false h_ q2_) | (simp_all; done))) | (symm; exact (consFits_mk (m := m) (n := n) (old := old) (proof := proof) (by assumption) (by first | omega | (have h_ := ‹hashes [old] = true›; rw [hashes_one] at h_; exact of_decide_eq_true h_)) (by omega) (by assumption)))))
    ·
     replace h7 : (hashes proof) = true := by simpa only [Bool.not_eq_true', Bool.not_eq_false'] using h7
     refine T.skip ?_
     refine T.seq ?_
     refine T.region ?_
     refine TL.cons rfl (Step.move (p := (.one (.d (.int .i64 m)))) rfl rfl (lt_ok rfl) rfl) ?_
     refine TL.cons rfl (Step.move (p := (.one (.d (.int .i64 n)))) rfl rfl (lt_ok rfl) rfl) ?_
     refine TL.cons rfl (Step.move (p := (.one (.d (.ints .u8 old)))) rfl rfl (lt_ok rfl) rfl) ?_
     refine TL.cons rfl (Step.move (p := (.one (.d (.bss proof)))) rfl rfl (lt_ok rfl) rfl) ?_
     have nn8 := @cRoots_len m n old proof true (by first | assumption | omega) (by first | assumption | exact mem_sub (by assumption) _ _ | exact s0.2)
     have nn9 := (@cRoots_u8 m n old proof true (by first | assumption | skip) (by first | assumption | exact mem_sub (by assumption) _ _ | exact s0.2)).1
     have nn10 := (@cRoots_u8 m n old proof true (by first | assumption | skip) (by first | assumption | exact mem_sub (by assumption) _ _ | exact s0.2)).2
     refine TL.cons rfl (Step.call (f := 75) (xs := [.tmp 36, .tmp 37, .tmp 38, .tmp 39, .const (.bool true)]) (ps := [(.one (.d (.int .i64 m))), (.one (.d (.int .i64 n))), (.one (.d (.ints .u8 old))), (.one (.d (.bss proof))), (.one (.d (.bool true)))]) true (g := .func 75) rfl rfl (lt_ok rfl) rfl (by kernel_rfl) rfl (.cons (.one (.d _)) (.cons (.one (.d _)) (.cons (.one (.d _)) (.cons (.one (.d _)) (.cons (.one (.d _)) .nil))))) (ok_spec_l09Roots m n old proof true (by first | assumption | omega | exact of_decide_eq_true ‹sizesOk _ _ = true›) (by first | assumption | omega | (rw [← consLenT_yes (of_decide_eq_true ‹sizesOk _ _ = true›)]; omega) | (have := hcl_ (by omega) (by omega) (by omega); omega) | (have := hcr_ (by omega) (by omega) (by omega); omega)) (by first | assumption | exact sha_u8 _ | exact treeRoot_u8 _ | exact nodeHash_u8 _ _ | exact leafHash_u8 _ | exact u8_cons (by decide) (by assumption) | exact mem_getD (p := U8s) (by assumption) (by omega) | exact u8_app (u8_cons (by decide) (by assumption)) (by assumption) | exact fun x hx => by cases hx) (by first | assumption | exact mem_sub (by assumption) _ _ | exact s0.2) (by first | assumption | exact mem_sub (by assumption) _ _ | exact s0.2) (by first | omega | assumption | (simp only [List.length_append] at *; omega))) (.inl rfl) rfl (by simp) rfl) ?_
     refine TL.cons rfl (Step.move (p := (.tup [(false, [.d (.ints .u8 (cRoots m n old proof true).1)]), (false, [.d (.ints .u8 (cRoots m n old proof true).2)])])) rfl rfl (lt_ok rfl) rfl) ?_
     refine TL.cons rfl (Step.extract (p := (.one (.d (.ints .u8 (cRoots m n old proof true).1)))) rfl rfl (lt_ok rfl) rfl rfl) ?_
     refine TL.cons rfl (Step.extract (p := (.one (.d (.ints .u8 (cRoots m n old proof true).2)))) rfl rfl (lt_ok rfl) rfl rfl) ?_
     refine TL.cons rfl (Step.assign (p := (.one (.d (.ints .u8 (cRoots m n old proof true).1)))) rfl rfl (lt_ok rfl) rfl) ?_
     refine TL.cons rfl (Step.assign (p := (.one (.d (.ints .u8 (cRoots m n old proof true).2)))) rfl rfl (lt_ok rfl) rfl) ?_
     refine TL.nil ?_
     refine T.seq ?_
     refine T.region ?_
     refine TL.cons rfl (Step.move (p := (.one (.d (.ints .u8 (cRoots m n old proof true).1)))) rfl rfl (lt_ok rfl) rfl) ?_
     refine TL.cons rfl (Step.call (f := 69) (xs := [.tmp 43]) (ps := [(.one (.d (.ints .u8 (cRoots m n old proof true).1)))]) false (g := .func 69) rfl rfl (lt_ok rfl) rfl (by kernel_rfl) rfl (.cons (.one (.d _)) .nil) (ok_spec_l01Copy (cRoots m n old proof true).1 (by first | omega | assumption | (simp only [List.length_take, List.length_drop]; omega))) (.inr rfl) rfl (by simp) rfl) ?_
     refine TL.cons rfl (Step.move (p := (.one (.d (.ints .u8 (cRoots m n old proof true).2)))) rfl rfl (lt_ok rfl) rfl) ?_
     refine TL.cons rfl (Step.call (f := 69) (xs := [.tmp 45]) (ps := [(.one (.d (.ints .u8 (cRoots m n old proof true).2)))]) false (g := .func 69) rfl rfl (lt_ok rfl) rfl (by kernel_rfl) rfl (.cons (.one (.d _)) .nil) (ok_spec_l01Copy (cRoots m n old proof true).2 (by first | omega | assumption | (simp only [List.length_take, List.length_drop]; omega))) (.inr rfl) rfl (by simp) rfl) ?_
     refine TL.cons rfl (Step.assign (p := (.one (.row 1044 []))) rfl rfl (lt_ok rfl) rfl) ?_
     refine TL.cons rfl (Step.assign (p := (.one (.row 1046 []))) rfl rfl (lt_ok rfl) rfl) ?_
     refine TL.cons rfl (Step.assign (p := (.one (.d (.bool true)))) rfl rfl (lt_ok rfl) rfl) ?_
     refine TL.nil ?_
     refine T.ret ?_
     refine ⟨[(false, [.row 1044 []]), (false, [.row 1046 []]), (false, [.d (.bool true)])], (.cons rfl (.cons rfl (.cons rfl .nil))), rfl, [1044, 1046], (RetC.own' rfl ?_ rfl (RetC.own' rfl ?_ rfl (RetC.rd' ?_ .nil)))⟩ <;> (first | (show (consRootsT m n old proof).1.length = 0; rw [consRootsT_no (Bool.eq_false_iff.2 fun hq_ => by obtain ⟨q1_, q2_, q3_, q4_⟩ := consFits_all hq_; first | omega | exact bool_ne q1_ (by assumption) | exact bool_ne q4_ (by assumption) | (have h_ := ‹hashes [old] = false›; rw [hashes_one] at h_; exact of_decide_eq_false h_ q2_) | (simp_all; done))]; rfl) | (show (consRootsT m n old proof).2.length = 0; rw [consRootsT_no (Bool.eq_false_iff.2 fun hq_ => by obtain ⟨q1_, q2_, q3_, q4_⟩ := consFits_all hq_; first | omega | exact bool_ne q1_ (by assumption) | exact bool_ne q4_ (by assumption) | (have h_ := ‹hashes [old] = false›; rw [hashes_one] at h_; exact of_decide_eq_false h_ q2_) | (simp_all; done))]; rfl) | (congr 1; first | (rw [consRootsT_yes (consFits_mk (m := m) (n := n) (old := old) (proof := proof) (by assumption) (by first | omega | (have h_ := ‹hashes [old] = true›; rw [hashes_one] at h_; exact of_decide_eq_true h_)) (by omega) (by assumption))]; done) | (symm; exact (Bool.eq_false_iff.2 fun hq_ => by obtain ⟨q1_, q2_, q3_, q4_⟩ := consFits_all hq_; first | omega | exact bool_ne q1_ (by assumption) | exact bool_ne q4_ (by assumption) | (have h_ := ‹hashes [old] = false›; rw [hashes_one] at h_; exact of_decide_eq_false h_ q2_) | (simp_all; done))) | (symm; exact (consFits_mk (m := m) (n := n) (old := old) (proof := proof) (by assumption) (by first | omega | (have h_ := ‹hashes [old] = true›; rw [hashes_one] at h_; exact of_decide_eq_true h_)) (by omega) (by assumption)))))
theorem ok_spec_SameBytes (a : List Int) (b : List Int) (h0_ : U8s a) (h1_ : U8s b) : RO Try.prog 63 [.one (.ints .u8 a), .one (.ints .u8 b)] [(false, [.rd (.bool (decide (a = b)))])] := by
 refine RO.intro Try.func63 rfl 10 rfl (le_ok rfl) fun w Z => ?_
 refine T.bnd 0 0 rfl rfl fun hb_0_0 => ?_
 simp only [D.size, List.length_map] at hb_0_0
 refine T.bnd 1 0 rfl rfl fun hb_1_0 => ?_
 simp only [D.size, List.length_map] at hb_1_0
 refine T.seq ?_
 refine T.region ?_
 refine TL.cons rfl (Step.assign (p := (.one (.d (.bool false)))) rfl rfl (lt_ok rfl) rfl) ?_
 refine TL.nil ?_
 refine T.seq ?_
 refine T.region ?_
 refine TL.cons rfl (Step.move (p := (.one (.d (.ints .u8 a)))) rfl rfl (lt_ok rfl) rfl) ?_
 refine TL.cons rfl (Step.toStr (e := 5) (xs := a) rfl rfl (lt_ok rfl) (by kernel_rfl) (by kernel_rfl) (by kernel_rfl) rfl rfl) ?_
 refine TL.cons rfl (Step.move (p := (.one (.d (.ints .u8 b)))) rfl rfl (lt_ok rfl) rfl) ?_
 refine TL.cons rfl (Step.toStr (e := 5) (xs := b) rfl rfl (lt_ok rfl) (by kernel_rfl) (by kernel_rfl) (by kernel_rfl) rfl rfl) ?_
 refine TL.cons rfl (Step.bin rfl rfl (lt_ok rfl) rfl rfl Bin.streq) ?_
 refine TL.cons rfl (Step.assign (p := (.one (.d (.bool ((strOfNums a).toList == (strOfNums b).toList))))) rfl rfl (lt_ok rfl) rfl) ?_
 refine TL.nil ?_
 refine T.ret ?_
 refine ⟨[(false, [.d (.bool ((strOfNums a).toList == (strOfNums b).toList))])], (.cons rfl .nil), rfl, [], (RetC.rd' ?_ .nil)⟩ <;> (exact congrArg D.bool (str_eq h0_ h1_))
theorem ok_spec_ConsOk (m : Int) (n : Int) (old : List Int) (root : List Int) (proof : List (List Int)) (h0_ : U8s old) (h1_ : U8s root) (h2_ : ∀ y ∈ proof, U8s y) (h3_ : ∀ y ∈ proof, y.length ≤ 1048576) (h4_ : old.length ≤ 1048576) : RO Try.prog 35 [.one (.int .i64 m), .one (.int .i64 n), .one (.ints .u8 old), .one (.ints .u8 root), .one (.bss proof)] [(false, [.rd (.bool (consOk m n old root proof))])] := by
 refine RO.intro Try.func35 rfl 34 rfl (le_ok rfl) fun w Z => ?_
 refine T.bnd 2 0 rfl rfl fun hb_2_0 => ?_
 simp only [D.size, List.length_map] at hb_2_0
 refine T.bnd 3 0 rfl rfl fun hb_3_0 => ?_
 simp only [D.size, List.length_map] at hb_3_0
 refine T.bnd 4 0 rfl rfl fun hb_4_0 => ?_
 simp only [D.size, List.length_map] at hb_4_0
 refine T.seq ?_
 refine T.region ?_
 refine TL.cons rfl (Step.assign (p := (.one (.d (.bool false)))) rfl rfl (lt_ok rfl) rfl) ?_
 refine TL.nil ?_
 refine T.seq ?_
 refine T.region ?_
 refine TL.cons rfl (Step.move (p := (.one (.d (.int .i64 m)))) rfl rfl (lt_ok rfl) rfl) ?_
 refine TL.cons rfl (Step.move (p := (.one (.d (.int .i64 n)))) rfl rfl (lt_ok rfl) rfl) ?_
 refine TL.cons rfl (Step.move (p := (.one (.d (.ints .u8 old)))) rfl rfl (lt_ok rfl) rfl) ?_
 refine TL.cons rfl (Step.move (p := (.one (.d (.bss proof)))) rfl rfl (lt_ok rfl) rfl) ?_
 have nn1 := @consRootsT_len m n old proof (by first | assumption | omega) (by first | assumption | exact mem_sub (by assumption) _ _ | exact s0.2)
 have nn2 := (@consRootsT_u8 m n old proof (by first | assumption | skip) (by first | assumption | exact mem_sub (by assumption) _ _ | exact s0.2)).1
 have nn3 := (@consRootsT_u8 m n old proof (by first | assumption | skip) (by first | assumption | exact mem_sub (by assumption) _ _ | exact s0.2)).2
 refine TL.cons rfl (Step.call (f := 36) (xs := [.tmp 15, .tmp 16, .tmp 17, .tmp 18]) (ps := [(.one (.d (.int .i64 m))), (.one (.d (.int .i64 n))), (.one (.d (.ints .u8 old))), (.one (.d (.bss proof)))]) false (g := .func 36) rfl rfl (lt_ok rfl) rfl (by kernel_rfl) rfl (.cons (.one (.d _)) (.cons (.one (.d _)) (.cons (.one (.d _)) (.cons (.one (.d _)) .nil)))) (ok_spec_ConsRoots m n old proof (by first | assumption | exact sha_u8 _ | exact treeRoot_u8 _ | exact nodeHash_u8 _ _ | exact leafHash_u8 _ | exact u8_cons (by decide) (by assumption) | exact mem_getD (p := U8s) (by assumption) (by omega) | exact u8_app (u8_cons (by decide) (by assumption)) (by assumption) | exact fun x hx => by cases hx) (by first | assumption | exact mem_sub (by assumption) _ _ | exact s0.2) (by first | assumption | exact mem_sub (by assumption) _ _ | exact s0.2) (by first | omega | assumption | (simp only [List.length_append] at *; omega))) (.inr rfl) rfl (by simp) rfl) ?_
 refine TL.cons rfl (Step.move (p := (.tup [(false, [.row 1019 []]), (false, [.row 2019 []]), (false, [.d (.bool (consFits m n old proof))])])) rfl rfl (lt_ok rfl) rfl) ?_
 refine TL.cons rfl (Step.extract (p := (.one (.row 1019 []))) rfl rfl (lt_ok rfl) rfl rfl) ?_
 refine TL.cons rfl (Step.extract (p := (.one (.row 2019 []))) rfl rfl (lt_ok rfl) rfl rfl) ?_
 refine TL.cons rfl (Step.extract (p := (.one (.d (.bool (consFits m n old proof))))) rfl rfl (lt_ok rfl) rfl rfl) ?_
 refine TL.cons rfl (Step.assign (p := (.one (.row 1019 []))) rfl rfl (lt_ok rfl) rfl) ?_
 refine TL.cons rfl (Step.assign (p := (.one (.row 2019 []))) rfl rfl (lt_ok rfl) rfl) ?_
 refine TL.cons rfl (Step.assign (p := (.one (.d (.bool (consFits m n old proof))))) rfl rfl (lt_ok rfl) rfl) ?_
 refine TL.nil ?_
 refine T.seq ?_
 refine T.region ?_
 refine TL.cons rfl (Step.move (p := (.one (.d (.bool (consFits m n old proof))))) rfl rfl (lt_ok rfl) rfl) ?_
 refine TL.cons rfl (Step.move (p := (.one (.d (.bool (consFits m n old proof))))) rfl rfl (lt_ok rfl) rfl) ?_
 rcases Bool.eq_false_or_eq_true (consFits m n old proof) with hb4 | hb4
 ·
  refine TL.known 24 hb4 rfl ?_
  refine TL.gyes 24 rfl rfl (lt_ok rfl) rfl (Step.move (p := (.one (.row 1019 []))) rfl rfl (lt_ok rfl) rfl) ?_
  refine TL.gyes 24 rfl rfl (lt_ok rfl) rfl (Step.move (p := (.one (.d (.ints .u8 old)))) rfl rfl (lt_ok rfl) rfl) ?_
  refine TL.gyes 24 rfl rfl (lt_ok rfl) rfl (Step.call (f := 63) (xs := [.tmp 25, .tmp 26]) (ps := [(.one (.row 1019 [])), (.one (.d (.ints .u8 old)))]) false (g := .func 63) rfl rfl (lt_ok rfl) rfl (by kernel_rfl) rfl (.cons (.one (.row rfl rfl rfl rfl)) (.cons (.one (.d _)) .nil)) (ok_spec_SameBytes (consRootsT m n old proof).1 old (by first | assumption | omega) (by first | assumption | omega)) (.inr rfl) rfl (by simp) rfl) ?_
  refine TL.cons rfl (Step.pick (b := true) (p := (.one (.d (.bool (decide ((consRootsT m n old proof).1 = old)))))) rfl rfl (lt_ok rfl) rfl rfl) ?_
  refine TL.cons rfl (Step.move (p := (.one (.d (.bool (decide ((consRootsT m n old proof).1 = old)))))) rfl rfl (lt_ok rfl) rfl) ?_
  rcases Bool.eq_false_or_eq_true (decide ((consRootsT m n old proof).1 = old)) with hb5 | hb5
  ·
   refine TL.known 29 hb5 rfl ?_
   have hb5' := hb5
   replace hb5' := of_decide_eq_true hb5'
   refine TL.gyes 29 rfl rfl (lt_ok rfl) rfl (Step.move (p := (.one (.row 2019 []))) rfl rfl (lt_ok rfl) rfl) ?_
   refine TL.gyes 29 rfl rfl (lt_ok rfl) rfl (Step.move (p := (.one (.d (.ints .u8 root)))) rfl rfl (lt_ok rfl) rfl) ?_
   refine TL.gyes 29 rfl rfl (lt_ok rfl) rfl (Step.call (f := 63) (xs := [.tmp 30, .tmp 31]) (ps := [(.one (.row 2019 [])), (.one (.d (.ints .u8 root)))]) false (g := .func 63) rfl rfl (lt_ok rfl) rfl (by kernel_rfl) rfl (.cons (.one (.row rfl rfl rfl rfl)) (.cons (.one (.d _)) .nil)) (ok_spec_SameBytes (consRootsT m n old proof).2 root (by first | assumption | omega) (by first | assumption | omega)) (.inr rfl) rfl (by simp) rfl) ?_
   refine TL.cons rfl (Step.pick (b := true) (p := (.one (.d (.bool (decide ((consRootsT m n old proof).2 = root)))))) rfl rfl (lt_ok rfl) rfl rfl) ?_
   refine TL.cons rfl (Step.assign (p := (.one (.d (.bool (decide ((consRootsT m n old proof).2 = root)))))) rfl rfl (lt_ok rfl) rfl) ?_
   refine TL.nil ?_
   refine T.ret ?_
   refine ⟨[(false, [.d (.bool (decide ((consRootsT m n old proof).2 = root)))])], (.cons rfl .nil), rfl, [], (RetC.rd' ?_ .nil)⟩ <;> (first | rfl | (congr 1; symm; simp only [consOk, *, Bool.and_true, Bool.true_and, Bool.and_false, Bool.false_and, decide_true, decide_false, and_true, true_and, and_self, and_false, false_and, Bool.and_self, not_true, not_false, Bool.not_true, Bool.not_false, ge_iff_le, gt_iff_lt, if_true, if_false, Bool.false_eq_true, ite_true, ite_false, reduceIte]; done) | (congr 1; symm; simp_all [consOk]; done) | (congr 1; symm; simp_all [consOk]; omega))
  ·
   refine TL.known 29 hb5 rfl ?_
   have hb5' := hb5
   replace hb5' := of_decide_eq_false hb5'
   refine TL.goff 29 rfl rfl (lt_ok rfl) rfl rfl rfl (lt_ok rfl) ?_
   refine TL.goff 29 rfl rfl (lt_ok rfl) rfl rfl rfl (lt_ok rfl) ?_
   refine TL.goff 29 rfl rfl (lt_ok rfl) rfl rfl rfl (lt_ok rfl) ?_
   refine TL.cons rfl (Step.pick (b := false) (p := (.one (.d (.bool false)))) rfl rfl (lt_ok rfl) rfl rfl) ?_
   refine TL.cons rfl (Step.assign (p := (.one (.d (.bool false)))) rfl rfl (lt_ok rfl) rfl) ?_
   refine TL.nil ?_
   refine T.ret ?_
   refine ⟨[(false, [.d (.bool false)])], (.cons rfl .nil), rfl, [], (RetC.rd' ?_ .nil)⟩ <;> (first | rfl | (congr 1; symm; simp only [consOk, *, Bool.and_true, Bool.true_and, Bool.and_false, Bool.false_and, decide_true, decide_false, and_true, true_and, and_self, and_false, false_and, Bool.and_self, not_true, not_false, Bool.not_true, Bool.not_false, ge_iff_le, gt_iff_lt, if_true, if_false, Bool.false_eq_true, ite_true, ite_false, reduceIte]; done) | (congr 1; symm; simp_all [consOk]; done) | (congr 1; symm; simp_all [consOk]; omega))
 ·
  refine TL.known 24 hb4 rfl ?_
  refine TL.goff 24 rfl rfl (lt_ok rfl) rfl rfl rfl (lt_ok rfl) ?_
  refine TL.goff 24 rfl rfl (lt_ok rfl) rfl rfl rfl (lt_ok rfl) ?_
  refine TL.goff 24 rfl rfl (lt_ok rfl) rfl rfl rfl (lt_ok rfl) ?_
  refine TL.cons rfl (Step.pick (b := false) (p := (.one (.d (.bool false)))) rfl rfl (lt_ok rfl) rfl rfl) ?_
  refine TL.cons rfl (Step.move (p := (.one (.d (.bool false)))) rfl rfl (lt_ok rfl) rfl) ?_
  refine TL.goff 29 rfl rfl (lt_ok rfl) rfl rfl rfl (lt_ok rfl) ?_
  refine TL.goff 29 rfl rfl (lt_ok rfl) rfl rfl rfl (lt_ok rfl) ?_
  refine TL.goff 29 rfl rfl (lt_ok rfl) rfl rfl rfl (lt_ok rfl) ?_
  refine TL.cons rfl (Step.pick (b := false) (p := (.one (.d (.bool false)))) rfl rfl (lt_ok rfl) rfl rfl) ?_
  refine TL.cons rfl (Step.assign (p := (.one (.d (.bool false)))) rfl rfl (lt_ok rfl) rfl) ?_
  refine TL.nil ?_
  refine T.ret ?_
  refine ⟨[(false, [.d (.bool false)])], (.cons rfl .nil), rfl, [], (RetC.rd' ?_ .nil)⟩ <;> (first | rfl | (congr 1; symm; simp only [consOk, *, Bool.and_true, Bool.true_and, Bool.and_false, Bool.false_and, decide_true, decide_false, and_true, true_and, and_self, and_false, false_and, Bool.and_self, not_true, not_false, Bool.not_true, Bool.not_false, ge_iff_le, gt_iff_lt, if_true, if_false, Bool.false_eq_true, ite_true, ite_false, reduceIte]; done) | (congr 1; symm; simp_all [consOk]; done) | (congr 1; symm; simp_all [consOk]; omega))
theorem ok_laws_FnExactConsOk (aM : Int) (aN : Int) (aOld : List Int) (aRoot : List Int) (aProof : List (List Int)) (h0_ : I64 aM) (h1_ : I64 aN) (h2_ : U8s aOld) (h3_ : U8s aRoot) (h4_ : ∀ y ∈ aProof, U8s y) : RO Try.prog 8 [.one (.int .i64 aM), .one (.int .i64 aN), .one (.ints .u8 aOld), .one (.ints .u8 aRoot), .one (.bss aProof)] [(false, [.rd (.bool true)])] := by
 refine RO.intro Try.func8 rfl 67 rfl (le_ok rfl) fun w Z => ?_
 refine T.bnd 2 0 rfl rfl fun hb_2_0 => ?_
 simp only [D.size, List.length_map] at hb_2_0
 refine T.bnd 3 0 rfl rfl fun hb_3_0 => ?_
 simp only [D.size, List.length_map] at hb_3_0
 refine T.bnd 4 0 rfl rfl fun hb_4_0 => ?_
 simp only [D.size, List.length_map] at hb_4_0
 refine T.seq ?_
 refine T.region ?_
 refine TL.cons rfl (Step.assign (p := (.one (.d (.bool false)))) rfl rfl (lt_ok rfl) rfl) ?_
 refine TL.nil ?_
 refine T.seq ?_
 refine T.seq ?_
 refine T.region ?_
 refine TL.cons rfl (Step.move (p := (.one (.d (.ints .u8 aOld)))) rfl rfl (lt_ok rfl) rfl) ?_
 refine TL.cons rfl (Step.len (e := 5) (z := 1) (d := (.ints .u8 aOld)) rfl rfl (lt_ok rfl) (by kernel_rfl) rfl rfl) ?_
 refine TL.cons rfl (Step.bin rfl rfl (lt_ok rfl) rfl rfl (Bin.gtr (k := .i64) (a := (aOld.length : Int)) (b := 1048576))) ?_
 refine TL.nil ?_
 refine T.cond (b := decide (1048576 < (aOld.length : Int))) rfl (fun h1 => ?_) (fun h1 => ?_)
 ·
  replace h1 := of_decide_eq_true h1
  refine T.seq ?_
  refine T.region ?_
  refine TL.cons rfl (Step.assign (p := (.one (.d (.bool true)))) rfl rfl (lt_ok rfl) rfl) ?_
  refine TL.nil ?_
  refine T.ret ?_
  exact ⟨[(false, [.d (.bool true)])], (.cons rfl .nil), rfl, [], (RetC.rd' rfl .nil)⟩
 ·
  replace h1 := of_decide_eq_false h1
  refine T.skip ?_
  refine T.seq ?_
  refine T.seq ?_
  refine T.region ?_
  refine TL.cons rfl (Step.move (p := (.one (.d (.ints .u8 aRoot)))) rfl rfl (lt_ok rfl) rfl) ?_
  refine TL.cons rfl (Step.len (e := 5) (z := 1) (d := (.ints .u8 aRoot)) rfl rfl (lt_ok rfl) (by kernel_rfl) rfl rfl) ?_
  refine TL.cons rfl (Step.bin rfl rfl (lt_ok rfl) rfl rfl (Bin.gtr (k := .i64) (a := (aRoot.length : Int)) (b := 1048576))) ?_
  refine TL.nil ?_
  refine T.cond (b := decide (1048576 < (aRoot.length : Int))) rfl (fun h2 => ?_) (fun h2 => ?_)
  ·
   replace h2 := of_decide_eq_true h2
   refine T.seq ?_
   refine T.region ?_
   refine TL.cons rfl (Step.assign (p := (.one (.d (.bool true)))) rfl rfl (lt_ok rfl) rfl) ?_
   refine TL.nil ?_
   refine T.ret ?_
   exact ⟨[(false, [.d (.bool true)])], (.cons rfl .nil), rfl, [], (RetC.rd' rfl .nil)⟩
  ·
   replace h2 := of_decide_eq_false h2
   refine T.skip ?_
   refine T.seq ?_
   refine T.region ?_
   refine TL.cons rfl (Step.assign (p := (.one (.d (.int .i64 1048576)))) rfl rfl (lt_ok rfl) rfl) ?_
   refine TL.nil ?_
   refine T.seq ?_
   refine T.region ?_
   refine TL.cons rfl (Step.move (p := (.one (.d (.bss aProof)))) rfl rfl (lt_ok rfl) rfl) ?_
   refine TL.cons rfl (Step.move (p := (.one (.d (.int .i64 1048576)))) rfl rfl (lt_ok rfl) rfl) ?_
   refine TL.cons rfl (Step.call (f := 19) (xs := [.tmp 23, .tmp 24]) (ps := [(.one (.d (.bss aProof))), (.one (.d (.int .i64 1048576)))]) false (g := .func 19) rfl rfl (lt_ok rfl) rfl (by kernel_rfl) rfl (.cons (.one (.d _)) (.cons (.one (.d _)) .nil)) (ok_laws_szByteSS aProof 1048576 (by omega) (by omega)) (.inr rfl) rfl (by simp) rfl) ?_
   refine TL.cons rfl (Step.assign (p := (.one (.d (.int .i64 (szLs szB aProof 1048576))))) rfl rfl (lt_ok rfl) rfl) ?_
   refine TL.nil ?_
   refine T.seq ?_
   refine T.seq ?_
   refine T.region ?_
   refine TL.cons rfl (Step.move (p := (.one (.d (.int .i64 (szLs szB aProof 1048576))))) rfl rfl (lt_ok rfl) rfl) ?_
   refine TL.cons rfl (Step.bin rfl rfl (lt_ok rfl) rfl rfl (Bin.lss (k := .i64) (a := (szLs szB aProof 1048576)) (b := 0))) ?_
   refine TL.nil ?_
   refine T.cond (b := decide ((szLs szB aProof 1048576) < 0)) rfl (fun h4 => ?_) (fun h4 => ?_)
   ·
    replace h4 := of_decide_eq_true h4
    refine T.seq ?_
    refine T.region ?_
    refine TL.cons rfl (Step.assign (p := (.one (.d (.bool true)))) rfl rfl (lt_ok rfl) rfl) ?_
    refine TL.nil ?_
    refine T.ret ?_
    exact ⟨[(false, [.d (.bool true)])], (.cons rfl .nil), rfl, [], (RetC.rd' rfl .nil)⟩
   ·
    replace h4 := of_decide_eq_false h4
    have z3_le : szLs szB aProof 1048576 ≤ 1048576 := szLs_le (fun x l h => szB_le x h) _ (by omega)
    have z3_sm := szLs_sm (p := fun y => y.length ≤ 1048576) (fun x l h => szB_le x h) (fun x l h h0 hl => szB_sm h hl) (by omega : (0 : Int) ≤ szLs szB aProof 1048576) (by omega : (1048576 : Int) ≤ 1048576)
    have s0l_ := z3_sm.1
    have s0m_ := z3_sm.2
    refine T.skip ?_
    refine T.seq ?_
    refine T.region ?_
    refine TL.cons rfl (Step.move (p := (.one (.d (.int .i64 aM)))) rfl rfl (lt_ok rfl) rfl) ?_
    refine TL.cons rfl (Step.move (p := (.one (.d (.int .i64 aN)))) rfl rfl (lt_ok rfl) rfl) ?_
    refine TL.cons rfl (Step.move (p := (.one (.d (.ints .u8 aOld)))) rfl rfl (lt_ok rfl) rfl) ?_
    refine TL.cons rfl (Step.call (f := 27) (xs := [.tmp 30]) (ps := [(.one (.d (.ints .u8 aOld)))]) false (g := .func 27) rfl rfl (lt_ok rfl) rfl (by kernel_rfl) rfl (.cons (.one (.d _)) .nil) (ok_laws_toByteS aOld (by first | omega | assumption | exact mem_getD h0_.2 (by omega))) (.inr rfl) rfl (by simp) rfl) ?_
    refine TL.cons rfl (Step.move (p := (.one (.d (.ints .u8 aRoot)))) rfl rfl (lt_ok rfl) rfl) ?_
    refine TL.cons rfl (Step.call (f := 27) (xs := [.tmp 32]) (ps := [(.one (.d (.ints .u8 aRoot)))]) false (g := .func 27) rfl rfl (lt_ok rfl) rfl (by kernel_rfl) rfl (.cons (.one (.d _)) .nil) (ok_laws_toByteS aRoot (by first | omega | assumption | exact mem_getD h0_.2 (by omega))) (.inr rfl) rfl (by simp) rfl) ?_
    refine TL.cons rfl (Step.move (p := (.one (.d (.bss aProof)))) rfl rfl (lt_ok rfl) rfl) ?_
    refine TL.cons rfl (Step.call (f := 21) (xs := [.tmp 34]) (ps := [(.one (.d (.bss aProof)))]) false (g := .func 21) rfl rfl (lt_ok rfl) rfl (by kernel_rfl) rfl (.cons (.one (.d _)) .nil) (ok_laws_toByteSS aProof (by first | assumption | exact ⟨‹_›, ‹_›⟩ | exact mem_getD h0_.2 (by omega))) (.inr rfl) rfl (by simp) rfl) ?_
    refine TL.cons rfl (Step.call (f := 35) (xs := [.tmp 28, .tmp 29, .tmp 31, .tmp 33, .tmp 35]) (ps := [(.one (.d (.int .i64 aM))), (.one (.d (.int .i64 aN))), (.one (.row 1031 [])), (.one (.row 1033 [])), (.one (.row 1035 []))]) false (g := .func 35) rfl rfl (lt_ok rfl) rfl (by kernel_rfl) rfl (.cons (.one (.d _)) (.cons (.one (.d _)) (.cons (.one (.row rfl rfl rfl rfl)) (.cons (.one (.row rfl rfl rfl rfl)) (.cons (.one (.row rfl rfl rfl rfl)) .nil))))) (ok_spec_ConsOk aM aN aOld aRoot aProof (by assumption) (by assumption) (by first | assumption | exact mem_sub (by assumption) _ _ | exact s0.2) (by first | assumption | exact mem_sub (by assumption) _ _ | exact s0.2) (by first | omega | assumption | (simp only [List.length_append] at *; omega))) (.inr rfl) rfl (by simp) rfl) ?_
    refine TL.cons rfl (Step.assign (p := (.one (.d (.bool (consOk aM aN aOld aRoot aProof))))) rfl rfl (lt_ok rfl) rfl) ?_
    refine TL.nil ?_
    refine T.seq ?_
    refine T.region ?_
    refine TL.cons rfl (Step.move (p := (.one (.d (.ints .u8 aOld)))) rfl rfl (lt_ok rfl) rfl) ?_
    refine TL.cons rfl (Step.call (f := 27) (xs := [.tmp 37]) (ps := [(.one (.d (.ints .u8 aOld)))]) false (g := .func 27) rfl rfl (lt_ok rfl) rfl (by kernel_rfl) rfl (.cons (.one (.d _)) .nil) (ok_laws_toByteS aOld (by first | omega | assumption | exact mem_getD h0_.2 (by omega))) (.inr rfl) rfl (by simp) rfl) ?_
    refine TL.cons rfl (Step.assign (p := (.one (.row 1038 []))) rfl rfl (lt_ok rfl) rfl) ?_
    refine TL.nil ?_
    refine T.seq ?_
    refine T.region ?_
    refine TL.cons rfl (Step.move (p := (.one (.d (.ints .u8 aRoot)))) rfl rfl (lt_ok rfl) rfl) ?_
    refine TL.cons rfl (Step.call (f := 27) (xs := [.tmp 39]) (ps := [(.one (.d (.ints .u8 aRoot)))]) false (g := .func 27) rfl rfl (lt_ok rfl) rfl (by kernel_rfl) rfl (.cons (.one (.d _)) .nil) (ok_laws_toByteS aRoot (by first | omega | assumption | exact mem_getD h0_.2 (by omega))) (.inr rfl) rfl (by simp) rfl) ?_
    refine TL.cons rfl (Step.assign (p := (.one (.row 1040 []))) rfl rfl (lt_ok rfl) rfl) ?_
    refine TL.nil ?_
    refine T.seq ?_
    refine T.region ?_
    refine TL.cons rfl (Step.move (p := (.one (.d (.bss aProof)))) rfl rfl (lt_ok rfl) rfl) ?_
    refine TL.cons rfl (Step.call (f := 21) (xs := [.tmp 41]) (ps := [(.one (.d (.bss aProof)))]) false (g := .func 21) rfl rfl (lt_ok rfl) rfl (by kernel_rfl) rfl (.cons (.one (.d _)) .nil) (ok_laws_toByteSS aProof (by first | assumption | exact ⟨‹_›, ‹_›⟩ | exact mem_getD h0_.2 (by omega))) (.inr rfl) rfl (by simp) rfl) ?_
    refine TL.cons rfl (Step.assign (p := (.one (.row 1042 []))) rfl rfl (lt_ok rfl) rfl) ?_
    refine TL.nil ?_
    refine T.seq ?_
    refine T.region ?_
    refine TL.cons rfl (Step.move (p := (.one (.d (.int .i64 aM)))) rfl rfl (lt_ok rfl) rfl) ?_
    refine TL.cons rfl (Step.move (p := (.one (.d (.int .i64 aN)))) rfl rfl (lt_ok rfl) rfl) ?_
    refine TL.cons rfl (Step.move (p := (.one (.row 1038 []))) rfl rfl (lt_ok rfl) rfl) ?_
    refine TL.cons rfl (Step.move (p := (.one (.row 1040 []))) rfl rfl (lt_ok rfl) rfl) ?_
    refine TL.cons rfl (Step.move (p := (.one (.row 1042 []))) rfl rfl (lt_ok rfl) rfl) ?_
    refine TL.cons rfl (Step.call (f := 18) (xs := [.tmp 43, .tmp 44, .tmp 45, .tmp 46, .tmp 47]) (ps := [(.one (.d (.int .i64 aM))), (.one (.d (.int .i64 aN))), (.one (.row 1038 [])), (.one (.row 1040 [])), (.one (.row 1042 []))]) false (g := .func 18) rfl rfl (lt_ok rfl) rfl (by kernel_rfl) rfl (.cons (.one (.d _)) (.cons (.one (.d _)) (.cons (.one (.row rfl rfl rfl rfl)) (.cons (.one (.row rfl rfl rfl rfl)) (.cons (.one (.row rfl rfl rfl rfl)) .nil))))) (ok_impl_ConsOk aM aN aOld aRoot aProof (by assumption) (by assumption) (by first | assumption | exact mem_sub (by assumption) _ _ | exact s0.2) (by first | assumption | exact mem_sub (by assumption) _ _ | exact s0.2) (by first | omega | assumption | (simp only [List.length_append] at *; omega))) (.inr rfl) rfl (by simp) rfl) ?_
    refine TL.cons rfl (Step.assign (p := (.one (.d (.bool (consOk aM aN aOld aRoot aProof))))) rfl rfl (lt_ok rfl) rfl) ?_
    refine TL.nil ?_
    refine T.seq ?_
    refine T.seq ?_
    refine T.region ?_
    refine TL.cons rfl (Step.move (p := (.one (.d (.bool (consOk aM aN aOld aRoot aProof))))) rfl rfl (lt_ok rfl) rfl) ?_
    refine TL.cons rfl (Step.move (p := (.one (.d (.bool (consOk aM aN aOld aRoot aProof))))) rfl rfl (lt_ok rfl) rfl) ?_
    refine TL.cons rfl (Step.bneq (b := (consOk aM aN aOld aRoot aProof)) (c := (consOk aM aN aOld aRoot aProof)) rfl rfl (lt_ok rfl) (by kernel_rfl) rfl rfl) ?_
    refine TL.known 51 (c := false) (by simp) rfl ?_
    refine TL.nil ?_
    refine T.cond (b := false) rfl (fun h5_ => absurd h5_ (by simp)) (fun h5_ => ?_)
    refine T.skip ?_
    refine T.seq ?_
    refine T.seq ?_
    refine T.region ?_
    refine TL.cons rfl (Step.move (p := (.one (.row 1038 []))) rfl rfl (lt_ok rfl) rfl) ?_
    refine TL.cons rfl (Step.move (p := (.one (.d (.ints .u8 aOld)))) rfl rfl (lt_ok rfl) rfl) ?_
    refine TL.cons rfl (Step.call (f := 27) (xs := [.tmp 53]) (ps := [(.one (.d (.ints .u8 aOld)))]) false (g := .func 27) rfl rfl (lt_ok rfl) rfl (by kernel_rfl) rfl (.cons (.one (.d _)) .nil) (ok_laws_toByteS aOld (by first | omega | assumption | exact mem_getD h0_.2 (by omega))) (.inr rfl) rfl (by simp) rfl) ?_
    refine TL.cons rfl (Step.call (f := 29) (xs := [.tmp 52, .tmp 54]) (ps := [(.one (.row 1038 [])), (.one (.row 1054 []))]) false (g := .func 29) rfl rfl (lt_ok rfl) rfl (by kernel_rfl) rfl (.cons (.one (.row rfl rfl rfl rfl)) (.cons (.one (.row rfl rfl rfl rfl)) .nil)) (ok_laws_eqByteS aOld aOld) (.inr rfl) rfl (by simp) rfl) ?_
    refine TL.known 55 (c := true) (by simp) rfl ?_
    refine TL.cons rfl (Step.not (b := true) rfl rfl (lt_ok rfl) rfl) ?_
    refine TL.nil ?_
    refine T.cond (b := false) rfl (fun h6_ => absurd h6_ (by simp)) (fun h6_ => ?_)
    refine T.skip ?_
    refine T.seq ?_
    refine T.seq ?_
    refine T.region ?_
    refine TL.cons rfl (Step.move (p := (.one (.row 1040 []))) rfl rfl (lt_ok rfl) rfl) ?_
    refine TL.cons rfl (Step.move (p := (.one (.d (.ints .u8 aRoot)))) rfl rfl (lt_ok rfl) rfl) ?_
    refine TL.cons rfl (Step.call (f := 27) (xs := [.tmp 58]) (ps := [(.one (.d (.ints .u8 aRoot)))]) false (g := .func 27) rfl rfl (lt_ok rfl) rfl (by kernel_rfl) rfl (.cons (.one (.d _)) .nil) (ok_laws_toByteS aRoot (by first | omega | assumption | exact mem_getD h0_.2 (by omega))) (.inr rfl) rfl (by simp) rfl) ?_
    refine TL.cons rfl (Step.call (f := 29) (xs := [.tmp 57, .tmp 59]) (ps := [(.one (.row 1040 [])), (.one (.row 1059 []))]) false (g := .func 29) rfl rfl (lt_ok rfl) rfl (by kernel_rfl) rfl (.cons (.one (.row rfl rfl rfl rfl)) (.cons (.one (.row rfl rfl rfl rfl)) .nil)) (ok_laws_eqByteS aRoot aRoot) (.inr rfl) rfl (by simp) rfl) ?_
    refine TL.known 60 (c := true) (by simp) rfl ?_
    refine TL.cons rfl (Step.not (b := true) rfl rfl (lt_ok rfl) rfl) ?_
    refine TL.nil ?_
    refine T.cond (b := false) rfl (fun h7_ => absurd h7_ (by simp)) (fun h7_ => ?_)
    refine T.skip ?_
    refine T.seq ?_
    refine T.seq ?_
    refine T.region ?_
    refine TL.cons rfl (Step.move (p := (.one (.row 1042 []))) rfl rfl (lt_ok rfl) rfl) ?_
    refine TL.cons rfl (Step.move (p := (.one (.d (.bss aProof)))) rfl rfl (lt_ok rfl) rfl) ?_
    refine TL.cons rfl (Step.call (f := 21) (xs := [.tmp 63]) (ps := [(.one (.d (.bss aProof)))]) false (g := .func 21) rfl rfl (lt_ok rfl) rfl (by kernel_rfl) rfl (.cons (.one (.d _)) .nil) (ok_laws_toByteSS aProof (by first | assumption | exact ⟨‹_›, ‹_›⟩ | exact mem_getD h0_.2 (by omega))) (.inr rfl) rfl (by simp) rfl) ?_
    refine TL.cons rfl (Step.call (f := 23) (xs := [.tmp 62, .tmp 64]) (ps := [(.one (.row 1042 [])), (.one (.row 1064 []))]) false (g := .func 23) rfl rfl (lt_ok rfl) rfl (by kernel_rfl) rfl (.cons (.one (.row rfl rfl rfl rfl)) (.cons (.one (.row rfl rfl rfl rfl)) .nil)) (ok_laws_eqByteSS aProof aProof) (.inr rfl) rfl (by simp) rfl) ?_
    refine TL.known 65 (c := true) (by simp) rfl ?_
    refine TL.cons rfl (Step.not (b := true) rfl rfl (lt_ok rfl) rfl) ?_
    refine TL.nil ?_
    refine T.weaken (E' := { tm := [(10, (.one (.d (.bool false)))), (66, (.one (.d (.bool false))))], rows := [], boxes := [] }) (Env.le_mk ⟨by kernel_rfl, by kernel_rfl, trivial⟩ trivial trivial) ?_
    refine T.cond (b := false) rfl (fun h8_ => absurd h8_ (by simp)) (fun h8_ => ?_)
    refine T.skip ?_
    refine T.seq ?_
    refine T.region ?_
    refine TL.cons rfl (Step.assign (p := (.one (.d (.bool true)))) rfl rfl (lt_ok rfl) rfl) ?_
    refine TL.nil ?_
    refine T.ret ?_
    exact ⟨[(false, [.d (.bool true)])], (.cons rfl .nil), rfl, [], (RetC.rd' rfl .nil)⟩
end Go.Proofs.Ytmdojlglemnijaa.Rf
