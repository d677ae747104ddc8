/- The functions that FnExactPutHead calls, each held to what it answers. Printed by a program of this session; Lean checks it. -/
import Derived.Test.YthaagegnobegjaaProg
import Derived.Test.YthaagegnobegjaaRf26
import Derived.Test.YthaagegnobegjaaRFnExactPutHeadx1
namespace Go.Proofs.Ythaagegnobegjaa.Rf
open Go.RowKit
set_option linter.unusedVariables false
set_option linter.unnecessarySimpa false
set_option linter.unusedSimpArgs false
set_option maxRecDepth 100000
set_option maxHeartbeats 4000000
theorem ok_impl_writer__num (b : List Int) (n : Int) (h0_ : b.length ≤ 17592186044416) : BX Try.prog 110 [.bx, .rd (.one (.int .i64 n))] 136 [.own 5 (.ints .u8 b)] [.own 5 (.ints .u8 (putVar b n))] [] := by
 refine BX.intro Try.func110 rfl 16 rfl (le_ok rfl) (le_ok rfl) fun w Z IX pin hp => ?_
 refine T.bndRow 900 rfl fun hb_900 => ?_
 simp only [D.size, List.length_map] at hb_900
 refine T.region ?_
 refine TL.cons rfl (Step.move (p := (.one (.ptr 800 0))) rfl rfl (lt_ok rfl) rfl) ?_
 refine TL.cons rfl (Step.move (p := (.one (.ptr 800 0))) rfl rfl (lt_ok rfl) rfl) ?_
 refine TL.cons rfl (Step.nilCheck rfl rfl (lt_ok rfl) rfl) ?_
 refine TL.cons rfl (Step.fieldAddr (q := 0) (off := 0) (n := 1) (one := true) rfl rfl (lt_ok rfl) (by kernel_rfl) (Nat.succ_ne_zero _) rfl) ?_
 refine TL.cons rfl (Step.load_box (c := .row 900 []) rfl rfl (lt_ok rfl) (by kernel_rfl) rfl rfl rfl) ?_
 refine TL.cons rfl (Step.move (p := (.one (.d (.int .i64 n)))) rfl rfl (lt_ok rfl) rfl) ?_
 have nn1 := putVar_len b n
 refine TL.cons rfl (Step.call (f := 160) (xs := [.tmp 9, .tmp 10]) (ps := [(.one (.row 900 [])), (.one (.d (.int .i64 n)))]) false (g := .func 160) rfl rfl (lt_ok rfl) rfl (by kernel_rfl) rfl (.cons (.one (.row rfl rfl rfl rfl)) (.cons (.one (.d _)) .nil)) (ok_impl_PutVar b n (by first | omega | assumption | (simp only [List.length_append] at *; omega))) (.inr rfl) rfl (fun x hx => by have := hp x hx; omega) rfl) ?_
 refine TL.cons rfl (Step.move (p := (.tup [(false, [.row 1011 []]), (false, [.d (.bool (decide (0 ≤ n ∧ n ≤ 1152921504606846975)))])])) rfl rfl (lt_ok rfl) rfl) ?_
 refine TL.cons rfl (Step.extract (p := (.one (.row 1011 []))) rfl rfl (lt_ok rfl) rfl rfl) ?_
 refine TL.cons rfl (Step.extract (p := (.one (.d (.bool (decide (0 ≤ n ∧ n ≤ 1152921504606846975)))))) rfl rfl (lt_ok rfl) rfl rfl) ?_
 refine TL.cons rfl (Step.nilCheck rfl rfl (lt_ok rfl) rfl) ?_
 refine TL.cons rfl (Step.fieldAddr (q := 0) (off := 0) (n := 1) (one := true) rfl rfl (lt_ok rfl) (by kernel_rfl) (Nat.succ_ne_zero _) rfl) ?_
 refine TL.cons rfl (Step.store_box (n := 1) (p := (.one (.row 1011 []))) (qs := [.row 1011 []]) (ps' := [.row 1011 []]) rfl rfl (by kernel_rfl) rfl rfl rfl rfl rfl rfl (le_ok rfl) rfl) ?_
 refine TL.nil ?_
 exact ⟨[.row 1011 []], [], rfl, rfl, .nil, rfl, [1011], (RetC.own' rfl (by rfl) rfl .nil)⟩
theorem ok_impl_writer__raw (b : List Int) (x : List Int) (h0_ : b.length ≤ 17592186044416) (h1_ : x.length ≤ 17592186044416) : BX Try.prog 111 [.bx, .rd (.one (.ints .u8 x))] 136 [.own 5 (.ints .u8 b)] [.own 5 (.ints .u8 (b ++ x))] [] := by
 refine BX.intro Try.func111 rfl 13 rfl (le_ok rfl) (le_ok rfl) fun w Z IX pin hp => ?_
 refine T.bndRow 900 rfl fun hb_900 => ?_
 simp only [D.size, List.length_map] at hb_900
 refine T.bnd 1 0 rfl rfl fun hb_1_0 => ?_
 simp only [D.size, List.length_map] at hb_1_0
 refine T.region ?_
 refine TL.cons rfl (Step.move (p := (.one (.ptr 800 0))) rfl rfl (lt_ok rfl) rfl) ?_
 refine TL.cons rfl (Step.move (p := (.one (.ptr 800 0))) rfl rfl (lt_ok rfl) rfl) ?_
 refine TL.cons rfl (Step.nilCheck rfl rfl (lt_ok rfl) rfl) ?_
 refine TL.cons rfl (Step.fieldAddr (q := 0) (off := 0) (n := 1) (one := true) rfl rfl (lt_ok rfl) (by kernel_rfl) (Nat.succ_ne_zero _) rfl) ?_
 refine TL.cons rfl (Step.load_box (c := .row 900 []) rfl rfl (lt_ok rfl) (by kernel_rfl) rfl rfl rfl) ?_
 refine TL.cons rfl (Step.move (p := (.one (.d (.ints .u8 x)))) rfl rfl (lt_ok rfl) rfl) ?_
 refine TL.cons rfl (Step.append (e := 5) (z := 1) (by_ := 1) (d := (.ints .u8 b)) (dy := (.ints .u8 x)) (d' := (.ints .u8 (b ++ x))) (ss := []) rfl rfl (lt_ok rfl) (by kernel_rfl) rfl rfl rfl (lt_ok rfl) rfl (.froz rfl (by simp [D.flat, D.val])) (by simp) rfl (by simp only [D.size, List.length_map]; first | omega | (simp; omega) | (simp only [List.length_append] at *; omega)) (by simp only [D.size, List.length_map]; first | omega | (simp; omega) | (simp only [List.length_append] at *; omega)) (fun x hx => by have := hp x hx; omega)) ?_
 refine TL.cons rfl (Step.nilCheck rfl rfl (lt_ok rfl) rfl) ?_
 refine TL.cons rfl (Step.fieldAddr (q := 0) (off := 0) (n := 1) (one := true) rfl rfl (lt_ok rfl) (by kernel_rfl) (Nat.succ_ne_zero _) rfl) ?_
 refine TL.cons rfl (Step.store_box (n := 1) (p := (.one (.row 900 []))) (qs := [.row 900 []]) (ps' := [.row 900 []]) rfl rfl (by kernel_rfl) rfl rfl rfl rfl rfl rfl (le_ok rfl) rfl) ?_
 refine TL.nil ?_
 exact ⟨[.row 900 []], [], rfl, rfl, .nil, rfl, [900], (RetC.own' rfl (by rfl) rfl .nil)⟩
theorem ok_impl_writer__qc (b : List Int) (q : SQc) (h0_ : b.length ≤ 8796093022208) (h1_ : q.sm) : BX Try.prog 116 [.bx, .rd (.agg [(.int .i64 q.f0), (.int .i64 q.f1), (.ints .u8 q.f2), (.ints .u8 q.f3), (.bss q.f4)])] 136 [.own 5 (.ints .u8 b)] [.own 5 (.ints .u8 (putQcB b q))] [] := by
 refine BX.intro Try.func116 rfl 33 rfl (le_ok rfl) (le_ok rfl) fun w Z IX pin hp => ?_
 refine T.bndRow 900 rfl fun hb_900 => ?_
 simp only [D.size, List.length_map] at hb_900
 obtain ⟨s0, s1, s2⟩ := h1_
 refine T.seq ?_
 refine T.region ?_
 refine TL.cons rfl (Step.box (p := (.agg [.d (.int .i64 q.f0), .d (.int .i64 q.f1), .d (.ints .u8 q.f2), .d (.ints .u8 q.f3), .d (.bss q.f4)])) (ps := [.d (.int .i64 q.f0), .d (.int .i64 q.f1), .d (.ints .u8 q.f2), .d (.ints .u8 q.f3), .d (.bss q.f4)]) rfl rfl (lt_ok rfl) rfl rfl rfl rfl rfl) ?_
 refine TL.nil ?_
 refine T.seq ?_
 refine T.region ?_
 refine TL.cons rfl (Step.move (p := (.one (.ptr 800 0))) rfl rfl (lt_ok rfl) rfl) ?_
 refine TL.cons rfl (Step.fieldAddr (q := 0) (off := 0) (n := 1) (one := true) rfl rfl (lt_ok rfl) (by kernel_rfl) (Nat.succ_ne_zero _) rfl) ?_
 refine TL.cons rfl (Step.load_box (c := .d (.int .i64 q.f0)) rfl rfl (lt_ok rfl) (by kernel_rfl) rfl rfl rfl) ?_
 have nn1 := putVar_len b q.f0
 refine TL.cons rfl (Step.callX (f := 110) (b := 800) (T := 136) (xs := [.tmp 6, .tmp 8]) (ps := [(.one (.ptr 800 0)), (.one (.d (.int .i64 q.f0)))]) (args := [.bx, .rd (.one (.int .i64 q.f0))]) (bps := [.row 900 []]) (cs := [.own 5 (.ints .u8 b)]) (cs' := [.own 5 (.ints .u8 (putVar b q.f0))]) (res := []) (ss := [900]) (g := .func 110) rfl rfl (lt_ok rfl) rfl (by kernel_rfl) rfl (.cons (.bx) (.cons (.rd (.one (.d _))) .nil)) rfl (.own rfl (by simp) .nil) (ok_impl_writer__num b q.f0 (by first | omega | assumption | (simp only [List.length_append] at *; omega))) rfl rfl (fun x hx => by have := hp x hx; omega) rfl) ?_
 refine TL.ren 1009 180000 rfl (fun x hx => by have := hp x hx; omega) ?_
 refine TL.nil ?_
 refine T.seq ?_
 refine T.region ?_
 refine TL.cons rfl (Step.move (p := (.one (.ptr 800 0))) rfl rfl (lt_ok rfl) rfl) ?_
 refine TL.cons rfl (Step.fieldAddr (q := 0) (off := 1) (n := 1) (one := true) rfl rfl (lt_ok rfl) (by kernel_rfl) (Nat.succ_ne_zero _) rfl) ?_
 refine TL.cons rfl (Step.load_box (c := .d (.int .i64 q.f1)) rfl rfl (lt_ok rfl) (by kernel_rfl) rfl rfl rfl) ?_
 have nn2 := putVar_len (putVar b q.f0) q.f1
 refine TL.cons rfl (Step.callX (f := 110) (b := 800) (T := 136) (xs := [.tmp 10, .tmp 12]) (ps := [(.one (.ptr 800 0)), (.one (.d (.int .i64 q.f1)))]) (args := [.bx, .rd (.one (.int .i64 q.f1))]) (bps := [.row 180000 []]) (cs := [.own 5 (.ints .u8 (putVar b q.f0))]) (cs' := [.own 5 (.ints .u8 (putVar (putVar b q.f0) q.f1))]) (res := []) (ss := [180000]) (g := .func 110) rfl rfl (lt_ok rfl) rfl (by kernel_rfl) rfl (.cons (.bx) (.cons (.rd (.one (.d _))) .nil)) rfl (.own rfl (by simp) .nil) (ok_impl_writer__num (putVar b q.f0) q.f1 (by first | omega | assumption | (simp only [List.length_append] at *; omega))) rfl rfl (fun x hx => by have := hp x hx; omega) rfl) ?_
 refine TL.ren 1013 180000 rfl (fun x hx => by have := hp x hx; omega) ?_
 refine TL.nil ?_
 refine T.seq ?_
 refine T.region ?_
 refine TL.cons rfl (Step.move (p := (.one (.ptr 800 0))) rfl rfl (lt_ok rfl) rfl) ?_
 refine TL.cons rfl (Step.fieldAddr (q := 0) (off := 2) (n := 1) (one := true) rfl rfl (lt_ok rfl) (by kernel_rfl) (Nat.succ_ne_zero _) rfl) ?_
 refine TL.cons rfl (Step.load_box (c := .d (.ints .u8 q.f2)) rfl rfl (lt_ok rfl) (by kernel_rfl) rfl rfl rfl) ?_
 refine TL.cons rfl (Step.callX (f := 111) (b := 800) (T := 136) (xs := [.tmp 14, .tmp 16]) (ps := [(.one (.ptr 800 0)), (.one (.d (.ints .u8 q.f2)))]) (args := [.bx, .rd (.one (.ints .u8 q.f2))]) (bps := [.row 180000 []]) (cs := [.own 5 (.ints .u8 (putVar (putVar b q.f0) q.f1))]) (cs' := [.own 5 (.ints .u8 ((putVar (putVar b q.f0) q.f1) ++ q.f2))]) (res := []) (ss := [180000]) (g := .func 111) rfl rfl (lt_ok rfl) rfl (by kernel_rfl) rfl (.cons (.bx) (.cons (.rd (.one (.d _))) .nil)) rfl (.own rfl (by simp) .nil) (ok_impl_writer__raw (putVar (putVar b q.f0) q.f1) q.f2 (by first | omega | assumption | (simp only [List.length_append] at *; omega)) (by first | omega | assumption | (simp only [List.length_append] at *; omega))) rfl rfl (fun x hx => by have := hp x hx; omega) rfl) ?_
 refine TL.ren 1017 180000 rfl (fun x hx => by have := hp x hx; omega) ?_
 refine TL.nil ?_
 refine T.seq ?_
 refine T.region ?_
 refine TL.cons rfl (Step.move (p := (.one (.ptr 800 0))) rfl rfl (lt_ok rfl) rfl) ?_
 refine TL.cons rfl (Step.fieldAddr (q := 0) (off := 3) (n := 1) (one := true) rfl rfl (lt_ok rfl) (by kernel_rfl) (Nat.succ_ne_zero _) rfl) ?_
 refine TL.cons rfl (Step.load_box (c := .d (.ints .u8 q.f3)) rfl rfl (lt_ok rfl) (by kernel_rfl) rfl rfl rfl) ?_
 refine TL.cons rfl (Step.callX (f := 111) (b := 800) (T := 136) (xs := [.tmp 18, .tmp 20]) (ps := [(.one (.ptr 800 0)), (.one (.d (.ints .u8 q.f3)))]) (args := [.bx, .rd (.one (.ints .u8 q.f3))]) (bps := [.row 180000 []]) (cs := [.own 5 (.ints .u8 ((putVar (putVar b q.f0) q.f1) ++ q.f2))]) (cs' := [.own 5 (.ints .u8 (((putVar (putVar b q.f0) q.f1) ++ q.f2) ++ q.f3))]) (res := []) (ss := [180000]) (g := .func 111) rfl rfl (lt_ok rfl) rfl (by kernel_rfl) rfl (.cons (.bx) (.cons (.rd (.one (.d _))) .nil)) rfl (.own rfl (by simp) .nil) (ok_impl_writer__raw ((putVar (putVar b q.f0) q.f1) ++ q.f2) q.f3 (by first | omega | assumption | (simp only [List.length_append] at *; omega)) (by first | omega | assumption | (simp only [List.length_append] at *; omega))) rfl rfl (fun x hx => by have := hp x hx; omega) rfl) ?_
 refine TL.ren 1021 180000 rfl (fun x hx => by have := hp x hx; omega) ?_
 refine TL.nil ?_
 refine T.seq ?_
 refine T.region ?_
 refine TL.cons rfl (Step.fieldAddr (q := 0) (off := 4) (n := 1) (one := true) rfl rfl (lt_ok rfl) (by kernel_rfl) (Nat.succ_ne_zero _) rfl) ?_
 refine TL.cons rfl (Step.load_box (c := .d (.bss q.f4)) rfl rfl (lt_ok rfl) (by kernel_rfl) rfl rfl rfl) ?_
 refine TL.cons rfl (Step.len (e := 22) (z := 1) (d := (.bss q.f4)) rfl rfl (lt_ok rfl) (by kernel_rfl) rfl rfl) ?_
 refine TL.cons rfl (Step.move (p := (.one (.d (.int .i64 0)))) rfl rfl (lt_ok rfl) rfl) ?_
 refine TL.nil ?_
 refine T.block ?_
 refine T.loop (ι := Nat) (fun xx_ => { tm := [(0, (.one (.ptr 800 0))), (23, (.one (.d (.bss q.f4)))), (24, (.one (.d (.int .i64 (q.f4.length : Int))))), (25, (.one (.d (.int .i64 (xx_ : Int)))))], rows := [(180000, (5, (.ints .u8 ((q.f4.take xx_).foldl (fun b x => b ++ x) (putVar (putVar b q.f0) q.f1 ++ q.f2 ++ q.f3)))))], boxes := [(800, (136, [.row 180000 []])), (3, (29, [.d (.int .i64 q.f0), .d (.int .i64 q.f1), .d (.ints .u8 q.f2), .d (.ints .u8 q.f3), .d (.bss q.f4)]))] }) (fun xx_ => xx_ ≤ q.f4.length) (fun xx_ => q.f4.length - xx_) 0 ?_ ?_ ?_
 · exact Env.le_mk ⟨rfl, rfl, rfl, by first | (refine congrArg (fun x => some (_, D.ints .u8 x)) ?_; first | (rw [foldl_take_succ _ _ _ i [] (by omega)]; done) | rfl) | rfl | (refine congrArg (fun n => PV.one (.d (.int .i64 n))) ?_; first | omega | (simp; done)), trivial⟩ ⟨by first | (refine congrArg (fun x => some (_, D.ints .u8 x)) ?_; first | (rw [foldl_take_succ _ _ _ i [] (by omega)]; done) | rfl) | rfl | (refine congrArg (fun n => PV.one (.d (.int .i64 n))) ?_; first | omega | (simp; done)), trivial⟩ ⟨rfl, rfl, trivial⟩
 · exact Nat.zero_le _
 ·
  intro i hx
  try dsimp only at hx ⊢
  have hw_ := raws_len (b := putVar (putVar b q.f0) q.f1 ++ q.f2 ++ q.f3) s2.1 s2.2 i
  have hy_ := mem_len s2.2 i
  simp only [List.length_append] at hw_
  refine T.seq ?_
  refine T.region ?_
  refine TL.cons rfl (Step.bin rfl rfl (lt_ok rfl) rfl rfl (Bin.lss (k := .i64) (a := (i : Int)) (b := (q.f4.length : Int)))) ?_
  refine TL.nil ?_
  refine T.seq ?_
  refine T.cond (b := decide ((i : Int) < (q.f4.length : Int))) rfl (fun h3 => ?_) (fun h3 => ?_)
  ·
   replace h3 := of_decide_eq_true h3
   refine T.skip ?_
   refine T.seq ?_
   refine T.block ?_
   refine T.seq ?_
   refine T.region ?_
   refine TL.cons rfl (Step.index (e := 22) (z := 1) (i := (i : Int)) rfl rfl (lt_ok rfl) (by kernel_rfl) rfl rfl rfl (lt_ok rfl) rfl (by first | omega | (simp only [List.length_append] at *; omega) | (simp; omega)) (by simp only [D.size]; first | omega | (simp only [List.length_append] at *; omega) | (simp; omega))) ?_
   refine TL.cons rfl (Step.load (e := (.ints .u8 (q.f4.getD i []))) rfl rfl (lt_ok rfl) (by kernel_rfl) rfl rfl) ?_
   refine TL.cons rfl (Step.assign (p := (.one (.d (.ints .u8 (q.f4.getD i []))))) rfl rfl (lt_ok rfl) rfl) ?_
   refine TL.nil ?_
   refine T.region ?_
   refine TL.cons rfl (Step.move (p := (.one (.ptr 800 0))) rfl rfl (lt_ok rfl) rfl) ?_
   refine TL.cons rfl (Step.move (p := (.one (.d (.ints .u8 (q.f4.getD i []))))) rfl rfl (lt_ok rfl) rfl) ?_
   refine TL.cons rfl (Step.callX (f := 111) (b := 800) (T := 136) (xs := [.tmp 29, .tmp 30]) (ps := [(.one (.ptr 800 0)), (.one (.d (.ints .u8 (q.f4.getD i []))))]) (args := [.bx, .rd (.one (.ints .u8 (q.f4.getD i [])))]) (bps := [.row 180000 []]) (cs := [.own 5 (.ints .u8 ((q.f4.take i).foldl (fun b x => b ++ x) (putVar (putVar b q.f0) q.f1 ++ q.f2 ++ q.f3)))]) (cs' := [.own 5 (.ints .u8 (((q.f4.take i).foldl (fun b x => b ++ x) (putVar (putVar b q.f0) q.f1 ++ q.f2 ++ q.f3)) ++ (q.f4.getD i [])))]) (res := []) (ss := [180000]) (g := .func 111) rfl rfl (lt_ok rfl) rfl (by kernel_rfl) rfl (.cons (.bx) (.cons (.rd (.one (.d _))) .nil)) rfl (.own rfl (by simp) .nil) (ok_impl_writer__raw ((q.f4.take i).foldl (fun b x => b ++ x) (putVar (putVar b q.f0) q.f1 ++ q.f2 ++ q.f3)) (q.f4.getD i []) (by first | omega | assumption | (simp only [List.length_append] at *; omega)) (by first | omega | assumption | (simp only [List.length_append] at *; omega))) rfl rfl (fun x hx => by have := hp x hx; omega) rfl) ?_
   refine TL.ren 1031 180000 rfl (fun x hx => by have := hp x hx; omega) ?_
   refine TL.nil ?_
   refine T.region ?_
   refine TL.cons rfl (Step.bin (r := .int .i64 ((i : Int) + 1)) rfl rfl (lt_ok rfl) rfl rfl (Bin.add (a := (i : Int)) (b := 1) (by first | exact wrap_ok (by first | omega | (simp only [List.length_append] at *; omega) | (simp; omega)) (by first | omega | (simp only [List.length_append] at *; omega) | (simp; omega)) | rfl))) ?_
   refine TL.cons rfl (Step.move (p := (.one (.d (.int .i64 ((i : Int) + 1))))) rfl rfl (lt_ok rfl) rfl) ?_
   refine TL.nil ?_
   exact ⟨i + 1, by omega, by first | omega | (dsimp only; omega), Env.le_mk ⟨rfl, rfl, rfl, by first | (refine congrArg (fun x => some (_, D.ints .u8 x)) ?_; first | (rw [foldl_take_succ _ _ _ i [] (by omega)]; done) | rfl) | rfl | (refine congrArg (fun n => PV.one (.d (.int .i64 n))) ?_; first | omega | (simp; done)), trivial⟩ ⟨by first | (refine congrArg (fun x => some (_, D.ints .u8 x)) ?_; first | (rw [foldl_take_succ _ _ _ i [] (by omega)]; done) | rfl) | rfl | (refine congrArg (fun n => PV.one (.d (.int .i64 n))) ?_; first | omega | (simp; done)), trivial⟩ ⟨rfl, rfl, trivial⟩⟩
  ·
   replace h3 := of_decide_eq_false h3
   refine T.exit ?_
   exact ⟨[.row 180000 []], [], rfl, rfl, .nil, rfl, [180000], (RetC.own' rfl (by first | rfl | (congr 1; unfold putQcB rawsB; rw [foldl_all _ _ _ i (by omega)])) rfl .nil)⟩
theorem ok_impl_writer__head (b : List Int) (h : SHead) (h0_ : b.length ≤ 4398046511104) (h1_ : h.sm) : BX Try.prog 119 [.bx, .rd (.agg [(.int .i64 h.f0), (.int .i64 h.f1), (.int .i64 h.f2), (.ints .u8 h.f3), (.ints .u8 h.f4), (.int .i64 h.f5.f0), (.int .i64 h.f5.f1), (.ints .u8 h.f5.f2), (.ints .u8 h.f5.f3), (.bss h.f5.f4)])] 136 [.own 5 (.ints .u8 b)] [.own 5 (.ints .u8 (putHeadB b h))] [] := by
 refine BX.intro Try.func119 rfl 28 rfl (le_ok rfl) (le_ok rfl) fun w Z IX pin hp => ?_
 refine T.bndRow 900 rfl fun hb_900 => ?_
 simp only [D.size, List.length_map] at hb_900
 obtain ⟨s0, s1, s2⟩ := h1_
 refine T.seq ?_
 refine T.region ?_
 refine TL.cons rfl (Step.box (p := (.agg [.d (.int .i64 h.f0), .d (.int .i64 h.f1), .d (.int .i64 h.f2), .d (.ints .u8 h.f3), .d (.ints .u8 h.f4), .d (.int .i64 h.f5.f0), .d (.int .i64 h.f5.f1), .d (.ints .u8 h.f5.f2), .d (.ints .u8 h.f5.f3), .d (.bss h.f5.f4)])) (ps := [.d (.int .i64 h.f0), .d (.int .i64 h.f1), .d (.int .i64 h.f2), .d (.ints .u8 h.f3), .d (.ints .u8 h.f4), .d (.int .i64 h.f5.f0), .d (.int .i64 h.f5.f1), .d (.ints .u8 h.f5.f2), .d (.ints .u8 h.f5.f3), .d (.bss h.f5.f4)]) rfl rfl (lt_ok rfl) rfl rfl rfl rfl rfl) ?_
 refine TL.nil ?_
 refine T.seq ?_
 refine T.region ?_
 refine TL.cons rfl (Step.move (p := (.one (.ptr 800 0))) rfl rfl (lt_ok rfl) rfl) ?_
 refine TL.cons rfl (Step.fieldAddr (q := 0) (off := 0) (n := 1) (one := true) rfl rfl (lt_ok rfl) (by kernel_rfl) (Nat.succ_ne_zero _) rfl) ?_
 refine TL.cons rfl (Step.load_box (c := .d (.int .i64 h.f0)) rfl rfl (lt_ok rfl) (by kernel_rfl) rfl rfl rfl) ?_
 have nn1 := putVar_len b h.f0
 refine TL.cons rfl (Step.callX (f := 110) (b := 800) (T := 136) (xs := [.tmp 4, .tmp 6]) (ps := [(.one (.ptr 800 0)), (.one (.d (.int .i64 h.f0)))]) (args := [.bx, .rd (.one (.int .i64 h.f0))]) (bps := [.row 900 []]) (cs := [.own 5 (.ints .u8 b)]) (cs' := [.own 5 (.ints .u8 (putVar b h.f0))]) (res := []) (ss := [900]) (g := .func 110) rfl rfl (lt_ok rfl) rfl (by kernel_rfl) rfl (.cons (.bx) (.cons (.rd (.one (.d _))) .nil)) rfl (.own rfl (by simp) .nil) (ok_impl_writer__num b h.f0 (by first | omega | assumption | (simp only [List.length_append] at *; omega))) rfl rfl (fun x hx => by have := hp x hx; omega) rfl) ?_
 refine TL.ren 1007 180000 rfl (fun x hx => by have := hp x hx; omega) ?_
 refine TL.nil ?_
 refine T.seq ?_
 refine T.region ?_
 refine TL.cons rfl (Step.move (p := (.one (.ptr 800 0))) rfl rfl (lt_ok rfl) rfl) ?_
 refine TL.cons rfl (Step.fieldAddr (q := 0) (off := 1) (n := 1) (one := true) rfl rfl (lt_ok rfl) (by kernel_rfl) (Nat.succ_ne_zero _) rfl) ?_
 refine TL.cons rfl (Step.load_box (c := .d (.int .i64 h.f1)) rfl rfl (lt_ok rfl) (by kernel_rfl) rfl rfl rfl) ?_
 have nn2 := putVar_len (putVar b h.f0) h.f1
 refine TL.cons rfl (Step.callX (f := 110) (b := 800) (T := 136) (xs := [.tmp 8, .tmp 10]) (ps := [(.one (.ptr 800 0)), (.one (.d (.int .i64 h.f1)))]) (args := [.bx, .rd (.one (.int .i64 h.f1))]) (bps := [.row 180000 []]) (cs := [.own 5 (.ints .u8 (putVar b h.f0))]) (cs' := [.own 5 (.ints .u8 (putVar (putVar b h.f0) h.f1))]) (res := []) (ss := [180000]) (g := .func 110) rfl rfl (lt_ok rfl) rfl (by kernel_rfl) rfl (.cons (.bx) (.cons (.rd (.one (.d _))) .nil)) rfl (.own rfl (by simp) .nil) (ok_impl_writer__num (putVar b h.f0) h.f1 (by first | omega | assumption | (simp only [List.length_append] at *; omega))) rfl rfl (fun x hx => by have := hp x hx; omega) rfl) ?_
 refine TL.ren 1011 180000 rfl (fun x hx => by have := hp x hx; omega) ?_
 refine TL.nil ?_
 refine T.seq ?_
 refine T.region ?_
 refine TL.cons rfl (Step.move (p := (.one (.ptr 800 0))) rfl rfl (lt_ok rfl) rfl) ?_
 refine TL.cons rfl (Step.fieldAddr (q := 0) (off := 2) (n := 1) (one := true) rfl rfl (lt_ok rfl) (by kernel_rfl) (Nat.succ_ne_zero _) rfl) ?_
 refine TL.cons rfl (Step.load_box (c := .d (.int .i64 h.f2)) rfl rfl (lt_ok rfl) (by kernel_rfl) rfl rfl rfl) ?_
 have nn3 := putVar_len (putVar (putVar b h.f0) h.f1) h.f2
 refine TL.cons rfl (Step.callX (f := 110) (b := 800) (T := 136) (xs := [.tmp 12, .tmp 14]) (ps := [(.one (.ptr 800 0)), (.one (.d (.int .i64 h.f2)))]) (args := [.bx, .rd (.one (.int .i64 h.f2))]) (bps := [.row 180000 []]) (cs := [.own 5 (.ints .u8 (putVar (putVar b h.f0) h.f1))]) (cs' := [.own 5 (.ints .u8 (putVar (putVar (putVar b h.f0) h.f1) h.f2))]) (res := []) (ss := [180000]) (g := .func 110) rfl rfl (lt_ok rfl) rfl (by kernel_rfl) rfl (.cons (.bx) (.cons (.rd (.one (.d _))) .nil)) rfl (.own rfl (by simp) .nil) (ok_impl_writer__num (putVar (putVar b h.f0) h.f1) h.f2 (by first | omega | assumption | (simp only [List.length_append] at *; omega))) rfl rfl (fun x hx => by have := hp x hx; omega) rfl) ?_
 refine TL.ren 1015 180000 rfl (fun x hx => by have := hp x hx; omega) ?_
 refine TL.nil ?_
 refine T.seq ?_
 refine T.region ?_
 refine TL.cons rfl (Step.move (p := (.one (.ptr 800 0))) rfl rfl (lt_ok rfl) rfl) ?_
 refine TL.cons rfl (Step.fieldAddr (q := 0) (off := 3) (n := 1) (one := true) rfl rfl (lt_ok rfl) (by kernel_rfl) (Nat.succ_ne_zero _) rfl) ?_
 refine TL.cons rfl (Step.load_box (c := .d (.ints .u8 h.f3)) rfl rfl (lt_ok rfl) (by kernel_rfl) rfl rfl rfl) ?_
 refine TL.cons rfl (Step.callX (f := 111) (b := 800) (T := 136) (xs := [.tmp 16, .tmp 18]) (ps := [(.one (.ptr 800 0)), (.one (.d (.ints .u8 h.f3)))]) (args := [.bx, .rd (.one (.ints .u8 h.f3))]) (bps := [.row 180000 []]) (cs := [.own 5 (.ints .u8 (putVar (putVar (putVar b h.f0) h.f1) h.f2))]) (cs' := [.own 5 (.ints .u8 ((putVar (putVar (putVar b h.f0) h.f1) h.f2) ++ h.f3))]) (res := []) (ss := [180000]) (g := .func 111) rfl rfl (lt_ok rfl) rfl (by kernel_rfl) rfl (.cons (.bx) (.cons (.rd (.one (.d _))) .nil)) rfl (.own rfl (by simp) .nil) (ok_impl_writer__raw (putVar (putVar (putVar b h.f0) h.f1) h.f2) h.f3 (by first | omega | assumption | (simp only [List.length_append] at *; omega)) (by first | omega | assumption | (simp only [List.length_append] at *; omega))) rfl rfl (fun x hx => by have := hp x hx; omega) rfl) ?_
 refine TL.ren 1019 180000 rfl (fun x hx => by have := hp x hx; omega) ?_
 refine TL.nil ?_
 refine T.seq ?_
 refine T.region ?_
 refine TL.cons rfl (Step.move (p := (.one (.ptr 800 0))) rfl rfl (lt_ok rfl) rfl) ?_
 refine TL.cons rfl (Step.fieldAddr (q := 0) (off := 4) (n := 1) (one := true) rfl rfl (lt_ok rfl) (by kernel_rfl) (Nat.succ_ne_zero _) rfl) ?_
 refine TL.cons rfl (Step.load_box (c := .d (.ints .u8 h.f4)) rfl rfl (lt_ok rfl) (by kernel_rfl) rfl rfl rfl) ?_
 refine TL.cons rfl (Step.callX (f := 111) (b := 800) (T := 136) (xs := [.tmp 20, .tmp 22]) (ps := [(.one (.ptr 800 0)), (.one (.d (.ints .u8 h.f4)))]) (args := [.bx, .rd (.one (.ints .u8 h.f4))]) (bps := [.row 180000 []]) (cs := [.own 5 (.ints .u8 ((putVar (putVar (putVar b h.f0) h.f1) h.f2) ++ h.f3))]) (cs' := [.own 5 (.ints .u8 (((putVar (putVar (putVar b h.f0) h.f1) h.f2) ++ h.f3) ++ h.f4))]) (res := []) (ss := [180000]) (g := .func 111) rfl rfl (lt_ok rfl) rfl (by kernel_rfl) rfl (.cons (.bx) (.cons (.rd (.one (.d _))) .nil)) rfl (.own rfl (by simp) .nil) (ok_impl_writer__raw ((putVar (putVar (putVar b h.f0) h.f1) h.f2) ++ h.f3) h.f4 (by first | omega | assumption | (simp only [List.length_append] at *; omega)) (by first | omega | assumption | (simp only [List.length_append] at *; omega))) rfl rfl (fun x hx => by have := hp x hx; omega) rfl) ?_
 refine TL.ren 1023 180000 rfl (fun x hx => by have := hp x hx; omega) ?_
 refine TL.nil ?_
 refine T.region ?_
 refine TL.cons rfl (Step.move (p := (.one (.ptr 800 0))) rfl rfl (lt_ok rfl) rfl) ?_
 refine TL.cons rfl (Step.fieldAddr (q := 0) (off := 5) (n := 5) (one := false) rfl rfl (lt_ok rfl) (by kernel_rfl) (Nat.succ_ne_zero _) rfl) ?_
 refine TL.cons rfl (Step.load_box_agg (n := 5) (qs := [.d (.int .i64 h.f5.f0), .d (.int .i64 h.f5.f1), .d (.ints .u8 h.f5.f2), .d (.ints .u8 h.f5.f3), .d (.bss h.f5.f4)]) rfl rfl (lt_ok rfl) (by kernel_rfl) rfl rfl rfl rfl) ?_
 have nn4 := @putQcB_len (((putVar (putVar (putVar b h.f0) h.f1) h.f2) ++ h.f3) ++ h.f4) h.f5 (by assumption)
 refine TL.cons rfl (Step.callX (f := 116) (b := 800) (T := 136) (xs := [.tmp 24, .tmp 26]) (ps := [(.one (.ptr 800 0)), (.agg [.d (.int .i64 h.f5.f0), .d (.int .i64 h.f5.f1), .d (.ints .u8 h.f5.f2), .d (.ints .u8 h.f5.f3), .d (.bss h.f5.f4)])]) (args := [.bx, .rd (.agg [(.int .i64 h.f5.f0), (.int .i64 h.f5.f1), (.ints .u8 h.f5.f2), (.ints .u8 h.f5.f3), (.bss h.f5.f4)])]) (bps := [.row 180000 []]) (cs := [.own 5 (.ints .u8 (((putVar (putVar (putVar b h.f0) h.f1) h.f2) ++ h.f3) ++ h.f4))]) (cs' := [.own 5 (.ints .u8 (putQcB (((putVar (putVar (putVar b h.f0) h.f1) h.f2) ++ h.f3) ++ h.f4) h.f5))]) (res := []) (ss := [180000]) (g := .func 116) rfl rfl (lt_ok rfl) rfl (by kernel_rfl) rfl (.cons (.bx) (.cons (.rd (.agg (.cons (.d _) (.cons (.d _) (.cons (.d _) (.cons (.d _) (.cons (.d _) .nil))))))) .nil)) rfl (.own rfl (by simp) .nil) (ok_impl_writer__qc (((putVar (putVar (putVar b h.f0) h.f1) h.f2) ++ h.f3) ++ h.f4) h.f5 (by first | omega | assumption | (simp only [List.length_append] at *; omega)) (by assumption)) rfl rfl (fun x hx => by have := hp x hx; omega) rfl) ?_
 refine TL.ren 1027 180000 rfl (fun x hx => by have := hp x hx; omega) ?_
 refine TL.nil ?_
 exact ⟨[.row 180000 []], [], rfl, rfl, .nil, rfl, [180000], (RetC.own' rfl (by rfl) rfl .nil)⟩
theorem ok_impl_PutHead (l : SLimits) (b : List Int) (h : SHead) (h0_ : b.length ≤ 4398046511104) (h1_ : h.ok) (h2_ : h.sm) : RO Try.prog 64 [.agg l.cells, .one (.ints .u8 b), .agg h.cells] [(false, [.own 5 (.ints .u8 (putHead l b h))]), (false, [.rd (.bool (headOk l h))])] := by
 refine RO.intro Try.func64 rfl 24 rfl (le_ok rfl) fun w Z => ?_
 refine T.bnd 1 0 rfl rfl fun hb_1_0 => ?_
 simp only [D.size, List.length_map] at hb_1_0
 have hsm_ := h2_
 have hok_ := h1_
 refine T.seq ?_
 refine T.region ?_
 refine TL.cons rfl (Step.box (p := (.agg [.d (.int .i64 l.f0), .d (.int .i64 l.f1), .d (.int .i64 l.f2), .d (.int .i64 l.f3), .d (.int .i64 l.f4)])) (ps := [.d (.int .i64 l.f0), .d (.int .i64 l.f1), .d (.int .i64 l.f2), .d (.int .i64 l.f3), .d (.int .i64 l.f4)]) rfl rfl (lt_ok rfl) rfl rfl rfl rfl rfl) ?_
 refine TL.cons rfl (Step.box (p := (.agg [.d (.int .i64 h.f0), .d (.int .i64 h.f1), .d (.int .i64 h.f2), .d (.ints .u8 h.f3), .d (.ints .u8 h.f4), .d (.int .i64 h.f5.f0), .d (.int .i64 h.f5.f1), .d (.ints .u8 h.f5.f2), .d (.ints .u8 h.f5.f3), .d (.bss h.f5.f4)])) (ps := [.d (.int .i64 h.f0), .d (.int .i64 h.f1), .d (.int .i64 h.f2), .d (.ints .u8 h.f3), .d (.ints .u8 h.f4), .d (.int .i64 h.f5.f0), .d (.int .i64 h.f5.f1), .d (.ints .u8 h.f5.f2), .d (.ints .u8 h.f5.f3), .d (.bss h.f5.f4)]) rfl rfl (lt_ok rfl) rfl rfl rfl rfl rfl) ?_
 refine TL.cons rfl (Step.assign (p := (.one (.nil))) rfl rfl (lt_ok rfl) rfl) ?_
 refine TL.cons rfl (Step.assign (p := (.one (.d (.bool false)))) rfl rfl (lt_ok rfl) rfl) ?_
 refine TL.nil ?_
 refine T.seq ?_
 refine T.seq ?_
 refine T.region ?_
 refine TL.cons rfl (Step.load_box_agg (n := 5) (qs := [.d (.int .i64 l.f0), .d (.int .i64 l.f1), .d (.int .i64 l.f2), .d (.int .i64 l.f3), .d (.int .i64 l.f4)]) rfl rfl (lt_ok rfl) (by kernel_rfl) rfl rfl rfl rfl) ?_
 refine TL.cons rfl (Step.load_box_agg (n := 10) (qs := [.d (.int .i64 h.f0), .d (.int .i64 h.f1), .d (.int .i64 h.f2), .d (.ints .u8 h.f3), .d (.ints .u8 h.f4), .d (.int .i64 h.f5.f0), .d (.int .i64 h.f5.f1), .d (.ints .u8 h.f5.f2), .d (.ints .u8 h.f5.f3), .d (.bss h.f5.f4)]) rfl rfl (lt_ok rfl) (by kernel_rfl) rfl rfl rfl rfl) ?_
 refine TL.cons rfl (Step.call (f := 118) (xs := [.tmp 9, .tmp 10]) (ps := [(.agg [.d (.int .i64 l.f0), .d (.int .i64 l.f1), .d (.int .i64 l.f2), .d (.int .i64 l.f3), .d (.int .i64 l.f4)]), (.agg [.d (.int .i64 h.f0), .d (.int .i64 h.f1), .d (.int .i64 h.f2), .d (.ints .u8 h.f3), .d (.ints .u8 h.f4), .d (.int .i64 h.f5.f0), .d (.int .i64 h.f5.f1), .d (.ints .u8 h.f5.f2), .d (.ints .u8 h.f5.f3), .d (.bss h.f5.f4)])]) false (g := .func 118) rfl rfl (lt_ok rfl) rfl (by kernel_rfl) rfl (.cons (.agg (.cons (.d _) (.cons (.d _) (.cons (.d _) (.cons (.d _) (.cons (.d _) .nil)))))) (.cons (.agg (.cons (.d _) (.cons (.d _) (.cons (.d _) (.cons (.d _) (.cons (.d _) (.cons (.d _) (.cons (.d _) (.cons (.d _) (.cons (.d _) (.cons (.d _) .nil))))))))))) .nil)) (ok_impl_HeadOk l h (by assumption) (by assumption)) (.inr rfl) rfl (by simp) rfl) ?_
 refine TL.cons rfl (Step.not (b := (headOk l h)) rfl rfl (lt_ok rfl) rfl) ?_
 refine TL.nil ?_
 refine T.cond (b := !(headOk l h)) rfl (fun h1 => ?_) (fun h1 => ?_)
 ·
  replace h1 : (headOk l h) = false := by simpa only [Bool.not_eq_true', Bool.not_eq_false'] using h1
  refine T.seq ?_
  refine T.region ?_
  refine TL.cons rfl (Step.assign (p := (.one (.nil))) rfl rfl (lt_ok rfl) rfl) ?_
  refine TL.cons rfl (Step.assign (p := (.one (.d (.bool false)))) rfl rfl (lt_ok rfl) rfl) ?_
  refine TL.nil ?_
  refine T.ret ?_
  exact ⟨[(false, [.nil]), (false, [.d (.bool false)])], (.cons rfl (.cons rfl .nil)), rfl, [], (RetC.nilown' rfl (by first | rfl | (congr 1; simp only [putHead, *, Bool.and_true, Bool.true_and, Bool.and_false, Bool.false_and, decide_true, decide_false, and_true, true_and, and_self, and_false, false_and, Bool.and_self, not_true, not_false, Bool.not_true, Bool.not_false, ge_iff_le, gt_iff_lt, if_true, if_false, Bool.false_eq_true, ite_true, ite_false, reduceIte]; done) | (congr 1; simp only [putHead, *, Bool.and_true, Bool.true_and, Bool.and_false, Bool.false_and, decide_true, decide_false, and_true, true_and, and_self, and_false, false_and, Bool.and_self, not_true, not_false, Bool.not_true, Bool.not_false, ge_iff_le, gt_iff_lt, if_true, if_false, Bool.false_eq_true, ite_true, ite_false, reduceIte]; rfl)) (by first | exact trivial | exact D.wf_nil _) (RetC.rd' (by first | rfl | (congr 1; simp only [putHead, *, Bool.and_true, Bool.true_and, Bool.and_false, Bool.false_and, decide_true, decide_false, and_true, true_and, and_self, and_false, false_and, Bool.and_self, not_true, not_false, Bool.not_true, Bool.not_false, ge_iff_le, gt_iff_lt, if_true, if_false, Bool.false_eq_true, ite_true, ite_false, reduceIte]; done) | (congr 1; simp only [putHead, *, Bool.and_true, Bool.true_and, Bool.and_false, Bool.false_and, decide_true, decide_false, and_true, true_and, and_self, and_false, false_and, Bool.and_self, not_true, not_false, Bool.not_true, Bool.not_false, ge_iff_le, gt_iff_lt, if_true, if_false, Bool.false_eq_true, ite_true, ite_false, reduceIte]; rfl)) .nil))⟩
 ·
  replace h1 : (headOk l h) = true := by simpa only [Bool.not_eq_true', Bool.not_eq_false'] using h1
  refine T.skip ?_
  refine T.seq ?_
  refine T.region ?_
  refine TL.cons rfl (Step.move (p := (.one (.d (.ints .u8 b)))) rfl rfl (lt_ok rfl) rfl) ?_
  refine TL.cons rfl (Step.call (f := 83) (xs := [.tmp 13]) (ps := [(.one (.d (.ints .u8 b)))]) false (g := .func 83) rfl rfl (lt_ok rfl) rfl (by kernel_rfl) rfl (.cons (.one (.d _)) .nil) (ok_impl_copyBytes b (by first | omega | assumption)) (.inr rfl) rfl (by simp) rfl) ?_
  refine TL.cons rfl (Step.build (zs := [.slice none 0 0]) (places := [(0, 1)]) (pss := [(0, [.row 1014 []])]) (ps' := [.row 1014 []]) rfl rfl (lt_ok rfl) (by kernel_rfl) (.cons ⟨rfl, rfl⟩ .nil) rfl rfl rfl) ?_
  refine TL.cons rfl (Step.box (p := (.agg [.row 1014 []])) (ps := [.row 1014 []]) rfl rfl (lt_ok rfl) rfl rfl rfl rfl rfl) ?_
  refine TL.cons rfl (Step.assign (p := (.one (.ptr 16 0))) rfl rfl (lt_ok rfl) rfl) ?_
  refine TL.nil ?_
  refine T.seq ?_
  refine T.region ?_
  refine TL.cons rfl (Step.move (p := (.one (.ptr 16 0))) rfl rfl (lt_ok rfl) rfl) ?_
  refine TL.cons rfl (Step.load_box_agg (n := 10) (qs := [.d (.int .i64 h.f0), .d (.int .i64 h.f1), .d (.int .i64 h.f2), .d (.ints .u8 h.f3), .d (.ints .u8 h.f4), .d (.int .i64 h.f5.f0), .d (.int .i64 h.f5.f1), .d (.ints .u8 h.f5.f2), .d (.ints .u8 h.f5.f3), .d (.bss h.f5.f4)]) rfl rfl (lt_ok rfl) (by kernel_rfl) rfl rfl rfl rfl) ?_
  have nn2 := @putHeadB_len b h (by assumption)
  refine TL.cons rfl (Step.callX (f := 119) (b := 16) (T := 136) (xs := [.tmp 17, .tmp 18]) (ps := [(.one (.ptr 16 0)), (.agg [.d (.int .i64 h.f0), .d (.int .i64 h.f1), .d (.int .i64 h.f2), .d (.ints .u8 h.f3), .d (.ints .u8 h.f4), .d (.int .i64 h.f5.f0), .d (.int .i64 h.f5.f1), .d (.ints .u8 h.f5.f2), .d (.ints .u8 h.f5.f3), .d (.bss h.f5.f4)])]) (args := [.bx, .rd (.agg [(.int .i64 h.f0), (.int .i64 h.f1), (.int .i64 h.f2), (.ints .u8 h.f3), (.ints .u8 h.f4), (.int .i64 h.f5.f0), (.int .i64 h.f5.f1), (.ints .u8 h.f5.f2), (.ints .u8 h.f5.f3), (.bss h.f5.f4)])]) (bps := [.row 1014 []]) (cs := [.own 5 (.ints .u8 b)]) (cs' := [.own 5 (.ints .u8 (putHeadB b h))]) (res := []) (ss := [1014]) (g := .func 119) rfl rfl (lt_ok rfl) rfl (by kernel_rfl) rfl (.cons (.bx) (.cons (.rd (.agg (.cons (.d _) (.cons (.d _) (.cons (.d _) (.cons (.d _) (.cons (.d _) (.cons (.d _) (.cons (.d _) (.cons (.d _) (.cons (.d _) (.cons (.d _) .nil)))))))))))) .nil)) rfl (.own rfl (by simp) .nil) (ok_impl_writer__head b h (by first | omega | assumption | (simp only [List.length_append] at *; omega)) (by assumption)) rfl rfl (by simp) rfl) ?_
  refine TL.ren 1019 101600 rfl (by simp) ?_
  refine TL.nil ?_
  refine T.seq ?_
  refine T.region ?_
  refine TL.cons rfl (Step.move (p := (.one (.ptr 16 0))) rfl rfl (lt_ok rfl) rfl) ?_
  refine TL.cons rfl (Step.nilCheck rfl rfl (lt_ok rfl) rfl) ?_
  refine TL.cons rfl (Step.fieldAddr (q := 0) (off := 0) (n := 1) (one := true) rfl rfl (lt_ok rfl) (by kernel_rfl) (Nat.succ_ne_zero _) rfl) ?_
  refine TL.cons rfl (Step.load_box (c := .row 101600 []) rfl rfl (lt_ok rfl) (by kernel_rfl) rfl rfl rfl) ?_
  refine TL.cons rfl (Step.assign (p := (.one (.row 101600 []))) rfl rfl (lt_ok rfl) rfl) ?_
  refine TL.cons rfl (Step.assign (p := (.one (.d (.bool true)))) rfl rfl (lt_ok rfl) rfl) ?_
  refine TL.nil ?_
  refine T.ret ?_
  exact ⟨[(false, [.row 101600 []]), (false, [.d (.bool true)])], (.cons rfl (.cons rfl .nil)), rfl, [101600], (RetC.own' rfl (by first | rfl | (congr 1; simp only [putHead, *, Bool.and_true, Bool.true_and, Bool.and_false, Bool.false_and, decide_true, decide_false, and_true, true_and, and_self, and_false, false_and, Bool.and_self, not_true, not_false, Bool.not_true, Bool.not_false, ge_iff_le, gt_iff_lt, if_true, if_false, Bool.false_eq_true, ite_true, ite_false, reduceIte]; done) | (congr 1; simp only [putHead, *, Bool.and_true, Bool.true_and, Bool.and_false, Bool.false_and, decide_true, decide_false, and_true, true_and, and_self, and_false, false_and, Bool.and_self, not_true, not_false, Bool.not_true, Bool.not_false, ge_iff_le, gt_iff_lt, if_true, if_false, Bool.false_eq_true, ite_true, ite_false, reduceIte]; rfl)) rfl (RetC.rd' (by first | rfl | (congr 1; simp only [putHead, *, Bool.and_true, Bool.true_and, Bool.and_false, Bool.false_and, decide_true, decide_false, and_true, true_and, and_self, and_false, false_and, Bool.and_self, not_true, not_false, Bool.not_true, Bool.not_false, ge_iff_le, gt_iff_lt, if_true, if_false, Bool.false_eq_true, ite_true, ite_false, reduceIte]; done) | (congr 1; simp only [putHead, *, Bool.and_true, Bool.true_and, Bool.and_false, Bool.false_and, decide_true, decide_false, and_true, true_and, and_self, and_false, false_and, Bool.and_self, not_true, not_false, Bool.not_true, Bool.not_false, ge_iff_le, gt_iff_lt, if_true, if_false, Bool.false_eq_true, ite_true, ite_false, reduceIte]; rfl)) .nil))⟩
theorem ok_laws_eqByteSS (a : List (List Int)) (b : List (List Int)) : RO Try.prog 84 [.one (.bss a), .one (.bss b)] [(false, [.rd (.bool (decide (a = b)))])] := by
 refine RO.intro Try.func84 rfl 27 rfl (le_ok rfl) fun w Z => ?_
 refine T.bnd 0 0 rfl rfl fun hb_0_0 => ?_
 simp only [D.size, List.length_map] at hb_0_0
 refine T.bnd 1 0 rfl rfl fun hb_1_0 => ?_
 simp only [D.size, List.length_map] at hb_1_0
 refine T.seq ?_
 refine T.region ?_
 refine TL.cons rfl (Step.assign (p := (.one (.d (.bool false)))) rfl rfl (lt_ok rfl) rfl) ?_
 refine TL.nil ?_
 refine T.seq ?_
 refine T.seq ?_
 refine T.region ?_
 refine TL.cons rfl (Step.move (p := (.one (.d (.bss a)))) rfl rfl (lt_ok rfl) rfl) ?_
 refine TL.cons rfl (Step.len (e := 22) (z := 1) (d := (.bss a)) rfl rfl (lt_ok rfl) (by kernel_rfl) rfl rfl) ?_
 refine TL.cons rfl (Step.move (p := (.one (.d (.bss b)))) rfl rfl (lt_ok rfl) rfl) ?_
 refine TL.cons rfl (Step.len (e := 22) (z := 1) (d := (.bss b)) rfl rfl (lt_ok rfl) (by kernel_rfl) rfl rfl) ?_
 refine TL.cons rfl (Step.bin rfl rfl (lt_ok rfl) rfl rfl (Bin.neq (k := .i64) (a := (a.length : Int)) (b := (b.length : Int)))) ?_
 refine TL.nil ?_
 refine T.cond (b := decide ((a.length : Int) ≠ (b.length : Int))) rfl (fun h1 => ?_) (fun h1 => ?_)
 ·
  replace h1 := of_decide_eq_true h1
  refine T.seq ?_
  refine T.region ?_
  refine TL.cons rfl (Step.assign (p := (.one (.d (.bool false)))) rfl rfl (lt_ok rfl) rfl) ?_
  refine TL.nil ?_
  refine T.ret ?_
  exact ⟨[(false, [.d (.bool false)])], (.cons rfl .nil), rfl, [], (RetC.rd' (by (congr 1; symm; first | (apply decide_eq_false; rintro rfl; first | exact absurd rfl ‹¬ _ = _› | exact absurd rfl (of_decide_eq_false (by assumption)) | contradiction | simp_all) | (apply decide_eq_true; exact take_all hx2 (by omega) hx3))) .nil)⟩
 ·
  replace h1 := of_decide_eq_false h1
  refine T.skip ?_
  refine T.seq ?_
  refine T.seq ?_
  refine T.region ?_
  refine TL.cons rfl (Step.assign (p := (.one (.d (.int .i64 0)))) rfl rfl (lt_ok rfl) rfl) ?_
  refine TL.nil ?_
  refine T.block ?_
  refine T.loop (ι := Nat) (fun xx_ => { tm := [(0, (.one (.d (.bss a)))), (1, (.one (.d (.bss b)))), (5, (.one (.d (.int .i64 (xx_ : Int)))))], rows := [], boxes := [] }) (fun xx_ => xx_ ≤ a.length ∧ a.length = b.length ∧ a.take xx_ = b.take xx_) (fun xx_ => a.length - xx_) 0 ?_ ?_ ?_
  · exact Env.le_mk ⟨rfl, rfl, by first | rfl | (simp; done) | (congr 3; omega), trivial⟩ trivial trivial
  · (refine ⟨Nat.zero_le _, by omega, by simp⟩)
  ·
   intro i hx
   try dsimp only at hx ⊢
   obtain ⟨hx1, hx2, hx3⟩ := hx
   refine T.seq ?_
   refine T.seq ?_
   refine T.region ?_
   refine TL.cons rfl (Step.move (p := (.one (.d (.int .i64 (i : Int))))) rfl rfl (lt_ok rfl) rfl) ?_
   refine TL.cons rfl (Step.move (p := (.one (.d (.bss a)))) rfl rfl (lt_ok rfl) rfl) ?_
   refine TL.cons rfl (Step.len (e := 22) (z := 1) (d := (.bss a)) rfl rfl (lt_ok rfl) (by kernel_rfl) rfl rfl) ?_
   refine TL.cons rfl (Step.bin rfl rfl (lt_ok rfl) rfl rfl (Bin.lss (k := .i64) (a := (i : Int)) (b := (a.length : Int)))) ?_
   refine TL.nil ?_
   refine T.cond (b := decide ((i : Int) < (a.length : Int))) rfl (fun h2 => ?_) (fun h2 => ?_)
   ·
    replace h2 := of_decide_eq_true h2
    refine T.skip ?_
    refine T.seq ?_
    refine T.block ?_
    refine T.seq ?_
    refine T.draw [⟨17, (.one (.d (.bss a))), []⟩, ⟨18, (.one (.d (.int .i64 (i : Int)))), []⟩, ⟨19, (.one (.eptr (.bss a) i 0)), []⟩, ⟨20, (.one (.d (.ints .u8 (a.getD i [])))), []⟩, ⟨21, (.one (.d (.bss b))), []⟩, ⟨22, (.one (.d (.int .i64 (i : Int)))), []⟩, ⟨23, (.one (.eptr (.bss b) i 0)), []⟩, ⟨24, (.one (.d (.ints .u8 (b.getD i [])))), []⟩, ⟨25, (.one (.d (.bool (decide ((a.getD i []) = (b.getD i [])))))), []⟩, ⟨26, (.one (.d (.bool (!(decide ((a.getD i []) = (b.getD i []))))))), []⟩] (by kernel_rfl) (by kernel_rfl) ?_ ?_
    ·
     refine .cons (fun E hA_ => by have g0 := hA_.get 0 (by decide); exact OpStep.plain rfl (Step.move (p := (.one (.d (.bss a)))) (t := 17) rfl rfl (by exact lt_ok rfl) (show Env.ev E (.tmp 0) = _ from g0.trans rfl))) ?_
     refine .cons (fun E hA_ => by have g5 := hA_.get 5 (by decide); exact OpStep.plain rfl (Step.move (p := (.one (.d (.int .i64 (i : Int))))) (t := 18) rfl rfl (by exact lt_ok rfl) (show Env.ev E (.tmp 5) = _ from g5.trans rfl))) ?_
     refine .cons (fun E hA_ => by have g17 := hA_.get 17 (by decide); have g18 := hA_.get 18 (by decide); exact OpStep.plain rfl (Step.index (e := 22) (z := 1) (i := (i : Int)) (t := 19) rfl rfl (by exact lt_ok rfl) (by kernel_rfl) (show Env.ev E (.tmp 17) = _ from g17.trans rfl) rfl rfl (lt_ok rfl) (show Env.ev E (.tmp 18) = _ from g18.trans rfl) (by first | omega | (simp; omega)) (by simp only [D.size]; first | omega | (simp; omega)))) ?_
     refine .cons (fun E hA_ => by have g19 := hA_.get 19 (by decide); exact OpStep.plain rfl (Step.load (e := (.ints .u8 (a.getD i []))) (t := 20) rfl rfl (by exact lt_ok rfl) (by kernel_rfl) (show Env.ev E (.tmp 19) = _ from g19.trans rfl) rfl)) ?_
     refine .cons (fun E hA_ => by have g1 := hA_.get 1 (by decide); exact OpStep.plain rfl (Step.move (p := (.one (.d (.bss b)))) (t := 21) rfl rfl (by exact lt_ok rfl) (show Env.ev E (.tmp 1) = _ from g1.trans rfl))) ?_
     refine .cons (fun E hA_ => by have g5 := hA_.get 5 (by decide); exact OpStep.plain rfl (Step.move (p := (.one (.d (.int .i64 (i : Int))))) (t := 22) rfl rfl (by exact lt_ok rfl) (show Env.ev E (.tmp 5) = _ from g5.trans rfl))) ?_
     refine .cons (fun E hA_ => by have g21 := hA_.get 21 (by decide); have g22 := hA_.get 22 (by decide); exact OpStep.plain rfl (Step.index (e := 22) (z := 1) (i := (i : Int)) (t := 23) rfl rfl (by exact lt_ok rfl) (by kernel_rfl) (show Env.ev E (.tmp 21) = _ from g21.trans rfl) rfl rfl (lt_ok rfl) (show Env.ev E (.tmp 22) = _ from g22.trans rfl) (by first | omega | (simp; omega)) (by simp only [D.size]; first | omega | (simp; omega)))) ?_
     refine .cons (fun E hA_ => by have g23 := hA_.get 23 (by decide); exact OpStep.plain rfl (Step.load (e := (.ints .u8 (b.getD i []))) (t := 24) rfl rfl (by exact lt_ok rfl) (by kernel_rfl) (show Env.ev E (.tmp 23) = _ from g23.trans rfl) rfl)) ?_
     refine .cons (fun E hA_ => by have g20 := hA_.get 20 (by decide); have g24 := hA_.get 24 (by decide); exact OpStep.plain rfl (Step.call (f := 29) (xs := [.tmp 20, .tmp 24]) (ps := [(.one (.d (.ints .u8 (a.getD i [])))), (.one (.d (.ints .u8 (b.getD i []))))]) false (g := .func 29) (t := 25) rfl rfl (by exact lt_ok rfl) rfl (by kernel_rfl) (evs_cons (show Env.ev E (.tmp 20) = _ from g20.trans rfl) (evs_cons (show Env.ev E (.tmp 24) = _ from g24.trans rfl) (rfl))) (.cons (.one (.d _)) (.cons (.one (.d _)) .nil)) (ok_laws_eqByteS (a.getD i []) (b.getD i [])) (.inr rfl) (At.freshRows hA_ rfl) (by simp) rfl)) ?_
     refine .cons (fun E hA_ => by have g25 := hA_.get 25 (by decide); exact OpStep.plain rfl (Step.not (b := (decide ((a.getD i []) = (b.getD i [])))) (t := 26) rfl rfl (by exact lt_ok rfl) (show Env.ev E (.tmp 25) = _ from g25.trans rfl))) ?_
     exact .nil _ _
    refine TL.nil ?_
    refine T.cond (b := !(decide ((a.getD i []) = (b.getD i [])))) rfl (fun h3 => ?_) (fun h3 => ?_)
    ·
     replace h3 : (decide ((a.getD i []) = (b.getD i []))) = false := by simpa only [Bool.not_eq_true', Bool.not_eq_false'] using h3
     replace h3 := of_decide_eq_false h3
     refine T.seq ?_
     refine T.region ?_
     refine TL.cons rfl (Step.assign (p := (.one (.d (.bool false)))) rfl rfl (lt_ok rfl) rfl) ?_
     refine TL.nil ?_
     refine T.ret ?_
     exact ⟨[(false, [.d (.bool false)])], (.cons rfl .nil), rfl, [], (RetC.rd' (by (congr 1; symm; first | (apply decide_eq_false; rintro rfl; first | exact absurd rfl ‹¬ _ = _› | exact absurd rfl (of_decide_eq_false (by assumption)) | contradiction | simp_all) | (apply decide_eq_true; exact take_all hx2 (by omega) hx3))) .nil)⟩
    ·
     replace h3 : (decide ((a.getD i []) = (b.getD i []))) = true := by simpa only [Bool.not_eq_true', Bool.not_eq_false'] using h3
     replace h3 := of_decide_eq_true h3
     refine T.skip ?_
     refine T.region ?_
     refine TL.cons rfl (Step.move (p := (.one (.d (.int .i64 (i : Int))))) rfl rfl (lt_ok rfl) rfl) ?_
     refine TL.cons rfl (Step.bin (r := .int .i64 ((i : Int) + 1)) rfl rfl (lt_ok rfl) rfl rfl (Bin.add (a := (i : Int)) (b := 1) (by first | exact wrap_ok (by first | omega | (simp; omega)) (by first | omega | (simp; omega)) | rfl))) ?_
     refine TL.cons rfl (Step.assign (p := (.one (.d (.int .i64 ((i : Int) + 1))))) rfl rfl (lt_ok rfl) rfl) ?_
     refine TL.nil ?_
     exact ⟨i + 1, by (refine ⟨by omega, hx2, take_step (d := []) hx2 (by omega) hx3 (by first | assumption | exact Decidable.not_not.1 (by assumption) | omega)⟩), by omega, Env.le_mk ⟨rfl, rfl, by first | rfl | (simp; done) | (congr 3; omega), trivial⟩ trivial trivial⟩
   ·
    replace h2 := of_decide_eq_false h2
    refine T.exit ?_
    refine T.seq ?_
    refine T.region ?_
    refine TL.cons rfl (Step.assign (p := (.one (.d (.bool true)))) rfl rfl (lt_ok rfl) rfl) ?_
    refine TL.nil ?_
    refine T.ret ?_
    exact ⟨[(false, [.d (.bool true)])], (.cons rfl .nil), rfl, [], (RetC.rd' (by (congr 1; symm; first | (apply decide_eq_false; rintro rfl; first | exact absurd rfl ‹¬ _ = _› | exact absurd rfl (of_decide_eq_false (by assumption)) | contradiction | simp_all) | (apply decide_eq_true; exact take_all hx2 (by omega) hx3))) .nil)⟩
theorem ok_laws_eqQc (a : SQc) (b : SQc) : RO Try.prog 20 [.agg a.cells, .agg b.cells] [(false, [.rd (.bool (decide (a = b)))])] := by
 refine RO.intro Try.func20 rfl 33 rfl (le_ok rfl) fun w Z => ?_
 refine T.seq ?_
 refine T.region ?_
 refine TL.cons rfl (Step.box (p := (.agg [.d (.int .i64 a.f0), .d (.int .i64 a.f1), .d (.ints .u8 a.f2), .d (.ints .u8 a.f3), .d (.bss a.f4)])) (ps := [.d (.int .i64 a.f0), .d (.int .i64 a.f1), .d (.ints .u8 a.f2), .d (.ints .u8 a.f3), .d (.bss a.f4)]) rfl rfl (lt_ok rfl) rfl rfl rfl rfl rfl) ?_
 refine TL.cons rfl (Step.box (p := (.agg [.d (.int .i64 b.f0), .d (.int .i64 b.f1), .d (.ints .u8 b.f2), .d (.ints .u8 b.f3), .d (.bss b.f4)])) (ps := [.d (.int .i64 b.f0), .d (.int .i64 b.f1), .d (.ints .u8 b.f2), .d (.ints .u8 b.f3), .d (.bss b.f4)]) rfl rfl (lt_ok rfl) rfl rfl rfl rfl rfl) ?_
 refine TL.cons rfl (Step.assign (p := (.one (.d (.bool false)))) rfl rfl (lt_ok rfl) rfl) ?_
 refine TL.nil ?_
 refine T.seq ?_
 refine T.seq ?_
 refine T.region ?_
 refine TL.cons rfl (Step.fieldAddr (q := 0) (off := 0) (n := 1) (one := true) rfl rfl (lt_ok rfl) (by kernel_rfl) (Nat.succ_ne_zero _) rfl) ?_
 refine TL.cons rfl (Step.load_box (c := .d (.int .i64 a.f0)) rfl rfl (lt_ok rfl) (by kernel_rfl) rfl rfl rfl) ?_
 refine TL.cons rfl (Step.fieldAddr (q := 0) (off := 0) (n := 1) (one := true) rfl rfl (lt_ok rfl) (by kernel_rfl) (Nat.succ_ne_zero _) rfl) ?_
 refine TL.cons rfl (Step.load_box (c := .d (.int .i64 b.f0)) rfl rfl (lt_ok rfl) (by kernel_rfl) rfl rfl rfl) ?_
 refine TL.cons rfl (Step.bin rfl rfl (lt_ok rfl) rfl rfl (Bin.neq (k := .i64) (a := a.f0) (b := b.f0))) ?_
 refine TL.nil ?_
 refine T.cond (b := decide (a.f0 ≠ b.f0)) rfl (fun h1 => ?_) (fun h1 => ?_)
 ·
  replace h1 := of_decide_eq_true h1
  refine T.seq ?_
  refine T.region ?_
  refine TL.cons rfl (Step.assign (p := (.one (.d (.bool false)))) rfl rfl (lt_ok rfl) rfl) ?_
  refine TL.nil ?_
  refine T.ret ?_
  exact ⟨[(false, [.d (.bool false)])], (.cons rfl .nil), rfl, [], (RetC.rd' (by (congr 1; symm; first | (apply decide_eq_false; rintro rfl; first | exact absurd rfl ‹¬ _ = _› | contradiction) | (apply decide_eq_true; apply SQc.ext <;> first | assumption | exact Decidable.not_not.1 (by assumption)))) .nil)⟩
 ·
  replace h1 := of_decide_eq_false h1
  refine T.skip ?_
  refine T.seq ?_
  refine T.seq ?_
  refine T.region ?_
  refine TL.cons rfl (Step.fieldAddr (q := 0) (off := 1) (n := 1) (one := true) rfl rfl (lt_ok rfl) (by kernel_rfl) (Nat.succ_ne_zero _) rfl) ?_
  refine TL.cons rfl (Step.load_box (c := .d (.int .i64 a.f1)) rfl rfl (lt_ok rfl) (by kernel_rfl) rfl rfl rfl) ?_
  refine TL.cons rfl (Step.fieldAddr (q := 0) (off := 1) (n := 1) (one := true) rfl rfl (lt_ok rfl) (by kernel_rfl) (Nat.succ_ne_zero _) rfl) ?_
  refine TL.cons rfl (Step.load_box (c := .d (.int .i64 b.f1)) rfl rfl (lt_ok rfl) (by kernel_rfl) rfl rfl rfl) ?_
  refine TL.cons rfl (Step.bin rfl rfl (lt_ok rfl) rfl rfl (Bin.neq (k := .i64) (a := a.f1) (b := b.f1))) ?_
  refine TL.nil ?_
  refine T.cond (b := decide (a.f1 ≠ b.f1)) rfl (fun h2 => ?_) (fun h2 => ?_)
  ·
   replace h2 := of_decide_eq_true h2
   refine T.seq ?_
   refine T.region ?_
   refine TL.cons rfl (Step.assign (p := (.one (.d (.bool false)))) rfl rfl (lt_ok rfl) rfl) ?_
   refine TL.nil ?_
   refine T.ret ?_
   exact ⟨[(false, [.d (.bool false)])], (.cons rfl .nil), rfl, [], (RetC.rd' (by (congr 1; symm; first | (apply decide_eq_false; rintro rfl; first | exact absurd rfl ‹¬ _ = _› | contradiction) | (apply decide_eq_true; apply SQc.ext <;> first | assumption | exact Decidable.not_not.1 (by assumption)))) .nil)⟩
  ·
   replace h2 := of_decide_eq_false h2
   refine T.skip ?_
   refine T.seq ?_
   refine T.seq ?_
   refine T.region ?_
   refine TL.cons rfl (Step.fieldAddr (q := 0) (off := 2) (n := 1) (one := true) rfl rfl (lt_ok rfl) (by kernel_rfl) (Nat.succ_ne_zero _) rfl) ?_
   refine TL.cons rfl (Step.load_box (c := .d (.ints .u8 a.f2)) rfl rfl (lt_ok rfl) (by kernel_rfl) rfl rfl rfl) ?_
   refine TL.cons rfl (Step.fieldAddr (q := 0) (off := 2) (n := 1) (one := true) rfl rfl (lt_ok rfl) (by kernel_rfl) (Nat.succ_ne_zero _) rfl) ?_
   refine TL.cons rfl (Step.load_box (c := .d (.ints .u8 b.f2)) rfl rfl (lt_ok rfl) (by kernel_rfl) rfl rfl rfl) ?_
   refine TL.cons rfl (Step.call (f := 29) (xs := [.tmp 16, .tmp 18]) (ps := [(.one (.d (.ints .u8 a.f2))), (.one (.d (.ints .u8 b.f2)))]) false (g := .func 29) rfl rfl (lt_ok rfl) rfl (by kernel_rfl) rfl (.cons (.one (.d _)) (.cons (.one (.d _)) .nil)) (ok_laws_eqByteS a.f2 b.f2) (.inr rfl) rfl (by simp) rfl) ?_
   refine TL.cons rfl (Step.not (b := (decide (a.f2 = b.f2))) rfl rfl (lt_ok rfl) rfl) ?_
   refine TL.nil ?_
   refine T.cond (b := !(decide (a.f2 = b.f2))) rfl (fun h3 => ?_) (fun h3 => ?_)
   ·
    replace h3 : (decide (a.f2 = b.f2)) = false := by simpa only [Bool.not_eq_true', Bool.not_eq_false'] using h3
    replace h3 := of_decide_eq_false h3
    refine T.seq ?_
    refine T.region ?_
    refine TL.cons rfl (Step.assign (p := (.one (.d (.bool false)))) rfl rfl (lt_ok rfl) rfl) ?_
    refine TL.nil ?_
    refine T.ret ?_
    exact ⟨[(false, [.d (.bool false)])], (.cons rfl .nil), rfl, [], (RetC.rd' (by (congr 1; symm; first | (apply decide_eq_false; rintro rfl; first | exact absurd rfl ‹¬ _ = _› | contradiction) | (apply decide_eq_true; apply SQc.ext <;> first | assumption | exact Decidable.not_not.1 (by assumption)))) .nil)⟩
   ·
    replace h3 : (decide (a.f2 = b.f2)) = true := by simpa only [Bool.not_eq_true', Bool.not_eq_false'] using h3
    replace h3 := of_decide_eq_true h3
    refine T.skip ?_
    refine T.seq ?_
    refine T.seq ?_
    refine T.region ?_
    refine TL.cons rfl (Step.fieldAddr (q := 0) (off := 3) (n := 1) (one := true) rfl rfl (lt_ok rfl) (by kernel_rfl) (Nat.succ_ne_zero _) rfl) ?_
    refine TL.cons rfl (Step.load_box (c := .d (.ints .u8 a.f3)) rfl rfl (lt_ok rfl) (by kernel_rfl) rfl rfl rfl) ?_
    refine TL.cons rfl (Step.fieldAddr (q := 0) (off := 3) (n := 1) (one := true) rfl rfl (lt_ok rfl) (by kernel_rfl) (Nat.succ_ne_zero _) rfl) ?_
    refine TL.cons rfl (Step.load_box (c := .d (.ints .u8 b.f3)) rfl rfl (lt_ok rfl) (by kernel_rfl) rfl rfl rfl) ?_
    refine TL.cons rfl (Step.call (f := 29) (xs := [.tmp 22, .tmp 24]) (ps := [(.one (.d (.ints .u8 a.f3))), (.one (.d (.ints .u8 b.f3)))]) false (g := .func 29) rfl rfl (lt_ok rfl) rfl (by kernel_rfl) rfl (.cons (.one (.d _)) (.cons (.one (.d _)) .nil)) (ok_laws_eqByteS a.f3 b.f3) (.inr rfl) rfl (by simp) rfl) ?_
    refine TL.cons rfl (Step.not (b := (decide (a.f3 = b.f3))) rfl rfl (lt_ok rfl) rfl) ?_
    refine TL.nil ?_
    refine T.cond (b := !(decide (a.f3 = b.f3))) rfl (fun h4 => ?_) (fun h4 => ?_)
    ·
     replace h4 : (decide (a.f3 = b.f3)) = false := by simpa only [Bool.not_eq_true', Bool.not_eq_false'] using h4
     replace h4 := of_decide_eq_false h4
     refine T.seq ?_
     refine T.region ?_
     refine TL.cons rfl (Step.assign (p := (.one (.d (.bool false)))) rfl rfl (lt_ok rfl) rfl) ?_
     refine TL.nil ?_
     refine T.ret ?_
     exact ⟨[(false, [.d (.bool false)])], (.cons rfl .nil), rfl, [], (RetC.rd' (by (congr 1; symm; first | (apply decide_eq_false; rintro rfl; first | exact absurd rfl ‹¬ _ = _› | contradiction) | (apply decide_eq_true; apply SQc.ext <;> first | assumption | exact Decidable.not_not.1 (by assumption)))) .nil)⟩
    ·
     replace h4 : (decide (a.f3 = b.f3)) = true := by simpa only [Bool.not_eq_true', Bool.not_eq_false'] using h4
     replace h4 := of_decide_eq_true h4
     refine T.skip ?_
     refine T.seq ?_
     refine T.seq ?_
     refine T.region ?_
     refine TL.cons rfl (Step.fieldAddr (q := 0) (off := 4) (n := 1) (one := true) rfl rfl (lt_ok rfl) (by kernel_rfl) (Nat.succ_ne_zero _) rfl) ?_
     refine TL.cons rfl (Step.load_box (c := .d (.bss a.f4)) rfl rfl (lt_ok rfl) (by kernel_rfl) rfl rfl rfl) ?_
     refine TL.cons rfl (Step.fieldAddr (q := 0) (off := 4) (n := 1) (one := true) rfl rfl (lt_ok rfl) (by kernel_rfl) (Nat.succ_ne_zero _) rfl) ?_
     refine TL.cons rfl (Step.load_box (c := .d (.bss b.f4)) rfl rfl (lt_ok rfl) (by kernel_rfl) rfl rfl rfl) ?_
     refine TL.cons rfl (Step.call (f := 84) (xs := [.tmp 28, .tmp 30]) (ps := [(.one (.d (.bss a.f4))), (.one (.d (.bss b.f4)))]) false (g := .func 84) rfl rfl (lt_ok rfl) rfl (by kernel_rfl) rfl (.cons (.one (.d _)) (.cons (.one (.d _)) .nil)) (ok_laws_eqByteSS a.f4 b.f4) (.inr rfl) rfl (by simp) rfl) ?_
     refine TL.cons rfl (Step.not (b := (decide (a.f4 = b.f4))) rfl rfl (lt_ok rfl) rfl) ?_
     refine TL.nil ?_
     refine T.cond (b := !(decide (a.f4 = b.f4))) rfl (fun h5 => ?_) (fun h5 => ?_)
     ·
      replace h5 : (decide (a.f4 = b.f4)) = false := by simpa only [Bool.not_eq_true', Bool.not_eq_false'] using h5
      replace h5 := of_decide_eq_false h5
      refine T.seq ?_
      refine T.region ?_
      refine TL.cons rfl (Step.assign (p := (.one (.d (.bool false)))) rfl rfl (lt_ok rfl) rfl) ?_
      refine TL.nil ?_
      refine T.ret ?_
      exact ⟨[(false, [.d (.bool false)])], (.cons rfl .nil), rfl, [], (RetC.rd' (by (congr 1; symm; first | (apply decide_eq_false; rintro rfl; first | exact absurd rfl ‹¬ _ = _› | contradiction) | (apply decide_eq_true; apply SQc.ext <;> first | assumption | exact Decidable.not_not.1 (by assumption)))) .nil)⟩
     ·
      replace h5 : (decide (a.f4 = b.f4)) = true := by simpa only [Bool.not_eq_true', Bool.not_eq_false'] using h5
      replace h5 := of_decide_eq_true h5
      refine T.skip ?_
      refine T.seq ?_
      refine T.region ?_
      refine TL.cons rfl (Step.assign (p := (.one (.d (.bool true)))) rfl rfl (lt_ok rfl) rfl) ?_
      refine TL.nil ?_
      refine T.ret ?_
      exact ⟨[(false, [.d (.bool true)])], (.cons rfl .nil), rfl, [], (RetC.rd' (by (congr 1; symm; first | (apply decide_eq_false; rintro rfl; first | exact absurd rfl ‹¬ _ = _› | contradiction) | (apply decide_eq_true; apply SQc.ext <;> first | assumption | exact Decidable.not_not.1 (by assumption)))) .nil)⟩
theorem ok_laws_eqHead (a : SHead) (b : SHead) : RO Try.prog 65 [.agg a.cells, .agg b.cells] [(false, [.rd (.bool (decide (a = b)))])] := by
 refine RO.intro Try.func65 rfl 38 rfl (le_ok rfl) fun w Z => ?_
 refine T.seq ?_
 refine T.region ?_
 refine TL.cons rfl (Step.box (p := (.agg [.d (.int .i64 a.f0), .d (.int .i64 a.f1), .d (.int .i64 a.f2), .d (.ints .u8 a.f3), .d (.ints .u8 a.f4), .d (.int .i64 a.f5.f0), .d (.int .i64 a.f5.f1), .d (.ints .u8 a.f5.f2), .d (.ints .u8 a.f5.f3), .d (.bss a.f5.f4)])) (ps := [.d (.int .i64 a.f0), .d (.int .i64 a.f1), .d (.int .i64 a.f2), .d (.ints .u8 a.f3), .d (.ints .u8 a.f4), .d (.int .i64 a.f5.f0), .d (.int .i64 a.f5.f1), .d (.ints .u8 a.f5.f2), .d (.ints .u8 a.f5.f3), .d (.bss a.f5.f4)]) rfl rfl (lt_ok rfl) rfl rfl rfl rfl rfl) ?_
 refine TL.cons rfl (Step.box (p := (.agg [.d (.int .i64 b.f0), .d (.int .i64 b.f1), .d (.int .i64 b.f2), .d (.ints .u8 b.f3), .d (.ints .u8 b.f4), .d (.int .i64 b.f5.f0), .d (.int .i64 b.f5.f1), .d (.ints .u8 b.f5.f2), .d (.ints .u8 b.f5.f3), .d (.bss b.f5.f4)])) (ps := [.d (.int .i64 b.f0), .d (.int .i64 b.f1), .d (.int .i64 b.f2), .d (.ints .u8 b.f3), .d (.ints .u8 b.f4), .d (.int .i64 b.f5.f0), .d (.int .i64 b.f5.f1), .d (.ints .u8 b.f5.f2), .d (.ints .u8 b.f5.f3), .d (.bss b.f5.f4)]) rfl rfl (lt_ok rfl) rfl rfl rfl rfl rfl) ?_
 refine TL.cons rfl (Step.assign (p := (.one (.d (.bool false)))) rfl rfl (lt_ok rfl) rfl) ?_
 refine TL.nil ?_
 refine T.seq ?_
 refine T.seq ?_
 refine T.region ?_
 refine TL.cons rfl (Step.fieldAddr (q := 0) (off := 0) (n := 1) (one := true) rfl rfl (lt_ok rfl) (by kernel_rfl) (Nat.succ_ne_zero _) rfl) ?_
 refine TL.cons rfl (Step.load_box (c := .d (.int .i64 a.f0)) rfl rfl (lt_ok rfl) (by kernel_rfl) rfl rfl rfl) ?_
 refine TL.cons rfl (Step.fieldAddr (q := 0) (off := 0) (n := 1) (one := true) rfl rfl (lt_ok rfl) (by kernel_rfl) (Nat.succ_ne_zero _) rfl) ?_
 refine TL.cons rfl (Step.load_box (c := .d (.int .i64 b.f0)) rfl rfl (lt_ok rfl) (by kernel_rfl) rfl rfl rfl) ?_
 refine TL.cons rfl (Step.bin rfl rfl (lt_ok rfl) rfl rfl (Bin.neq (k := .i64) (a := a.f0) (b := b.f0))) ?_
 refine TL.nil ?_
 refine T.cond (b := decide (a.f0 ≠ b.f0)) rfl (fun h1 => ?_) (fun h1 => ?_)
 ·
  replace h1 := of_decide_eq_true h1
  refine T.seq ?_
  refine T.region ?_
  refine TL.cons rfl (Step.assign (p := (.one (.d (.bool false)))) rfl rfl (lt_ok rfl) rfl) ?_
  refine TL.nil ?_
  refine T.ret ?_
  exact ⟨[(false, [.d (.bool false)])], (.cons rfl .nil), rfl, [], (RetC.rd' (by (congr 1; symm; first | (apply decide_eq_false; rintro rfl; first | exact absurd rfl ‹¬ _ = _› | contradiction) | (apply decide_eq_true; apply SHead.ext <;> first | assumption | exact Decidable.not_not.1 (by assumption)))) .nil)⟩
 ·
  replace h1 := of_decide_eq_false h1
  refine T.skip ?_
  refine T.seq ?_
  refine T.seq ?_
  refine T.region ?_
  refine TL.cons rfl (Step.fieldAddr (q := 0) (off := 1) (n := 1) (one := true) rfl rfl (lt_ok rfl) (by kernel_rfl) (Nat.succ_ne_zero _) rfl) ?_
  refine TL.cons rfl (Step.load_box (c := .d (.int .i64 a.f1)) rfl rfl (lt_ok rfl) (by kernel_rfl) rfl rfl rfl) ?_
  refine TL.cons rfl (Step.fieldAddr (q := 0) (off := 1) (n := 1) (one := true) rfl rfl (lt_ok rfl) (by kernel_rfl) (Nat.succ_ne_zero _) rfl) ?_
  refine TL.cons rfl (Step.load_box (c := .d (.int .i64 b.f1)) rfl rfl (lt_ok rfl) (by kernel_rfl) rfl rfl rfl) ?_
  refine TL.cons rfl (Step.bin rfl rfl (lt_ok rfl) rfl rfl (Bin.neq (k := .i64) (a := a.f1) (b := b.f1))) ?_
  refine TL.nil ?_
  refine T.cond (b := decide (a.f1 ≠ b.f1)) rfl (fun h2 => ?_) (fun h2 => ?_)
  ·
   replace h2 := of_decide_eq_true h2
   refine T.seq ?_
   refine T.region ?_
   refine TL.cons rfl (Step.assign (p := (.one (.d (.bool false)))) rfl rfl (lt_ok rfl) rfl) ?_
   refine TL.nil ?_
   refine T.ret ?_
   exact ⟨[(false, [.d (.bool false)])], (.cons rfl .nil), rfl, [], (RetC.rd' (by (congr 1; symm; first | (apply decide_eq_false; rintro rfl; first | exact absurd rfl ‹¬ _ = _› | contradiction) | (apply decide_eq_true; apply SHead.ext <;> first | assumption | exact Decidable.not_not.1 (by assumption)))) .nil)⟩
  ·
   replace h2 := of_decide_eq_false h2
   refine T.skip ?_
   refine T.seq ?_
   refine T.seq ?_
   refine T.region ?_
   refine TL.cons rfl (Step.fieldAddr (q := 0) (off := 2) (n := 1) (one := true) rfl rfl (lt_ok rfl) (by kernel_rfl) (Nat.succ_ne_zero _) rfl) ?_
   refine TL.cons rfl (Step.load_box (c := .d (.int .i64 a.f2)) rfl rfl (lt_ok rfl) (by kernel_rfl) rfl rfl rfl) ?_
   refine TL.cons rfl (Step.fieldAddr (q := 0) (off := 2) (n := 1) (one := true) rfl rfl (lt_ok rfl) (by kernel_rfl) (Nat.succ_ne_zero _) rfl) ?_
   refine TL.cons rfl (Step.load_box (c := .d (.int .i64 b.f2)) rfl rfl (lt_ok rfl) (by kernel_rfl) rfl rfl rfl) ?_
   refine TL.cons rfl (Step.bin rfl rfl (lt_ok rfl) rfl rfl (Bin.neq (k := .i64) (a := a.f2) (b := b.f2))) ?_
   refine TL.nil ?_
   refine T.cond (b := decide (a.f2 ≠ b.f2)) rfl (fun h3 => ?_) (fun h3 => ?_)
   ·
    replace h3 := of_decide_eq_true h3
    refine T.seq ?_
    refine T.region ?_
    refine TL.cons rfl (Step.assign (p := (.one (.d (.bool false)))) rfl rfl (lt_ok rfl) rfl) ?_
    refine TL.nil ?_
    refine T.ret ?_
    exact ⟨[(false, [.d (.bool false)])], (.cons rfl .nil), rfl, [], (RetC.rd' (by (congr 1; symm; first | (apply decide_eq_false; rintro rfl; first | exact absurd rfl ‹¬ _ = _› | contradiction) | (apply decide_eq_true; apply SHead.ext <;> first | assumption | exact Decidable.not_not.1 (by assumption)))) .nil)⟩
   ·
    replace h3 := of_decide_eq_false h3
    refine T.skip ?_
    refine T.seq ?_
    refine T.seq ?_
    refine T.region ?_
    refine TL.cons rfl (Step.fieldAddr (q := 0) (off := 3) (n := 1) (one := true) rfl rfl (lt_ok rfl) (by kernel_rfl) (Nat.succ_ne_zero _) rfl) ?_
    refine TL.cons rfl (Step.load_box (c := .d (.ints .u8 a.f3)) rfl rfl (lt_ok rfl) (by kernel_rfl) rfl rfl rfl) ?_
    refine TL.cons rfl (Step.fieldAddr (q := 0) (off := 3) (n := 1) (one := true) rfl rfl (lt_ok rfl) (by kernel_rfl) (Nat.succ_ne_zero _) rfl) ?_
    refine TL.cons rfl (Step.load_box (c := .d (.ints .u8 b.f3)) rfl rfl (lt_ok rfl) (by kernel_rfl) rfl rfl rfl) ?_
    refine TL.cons rfl (Step.call (f := 29) (xs := [.tmp 21, .tmp 23]) (ps := [(.one (.d (.ints .u8 a.f3))), (.one (.d (.ints .u8 b.f3)))]) false (g := .func 29) rfl rfl (lt_ok rfl) rfl (by kernel_rfl) rfl (.cons (.one (.d _)) (.cons (.one (.d _)) .nil)) (ok_laws_eqByteS a.f3 b.f3) (.inr rfl) rfl (by simp) rfl) ?_
    refine TL.cons rfl (Step.not (b := (decide (a.f3 = b.f3))) rfl rfl (lt_ok rfl) rfl) ?_
    refine TL.nil ?_
    refine T.cond (b := !(decide (a.f3 = b.f3))) rfl (fun h4 => ?_) (fun h4 => ?_)
    ·
     replace h4 : (decide (a.f3 = b.f3)) = false := by simpa only [Bool.not_eq_true', Bool.not_eq_false'] using h4
     replace h4 := of_decide_eq_false h4
     refine T.seq ?_
     refine T.region ?_
     refine TL.cons rfl (Step.assign (p := (.one (.d (.bool false)))) rfl rfl (lt_ok rfl) rfl) ?_
     refine TL.nil ?_
     refine T.ret ?_
     exact ⟨[(false, [.d (.bool false)])], (.cons rfl .nil), rfl, [], (RetC.rd' (by (congr 1; symm; first | (apply decide_eq_false; rintro rfl; first | exact absurd rfl ‹¬ _ = _› | contradiction) | (apply decide_eq_true; apply SHead.ext <;> first | assumption | exact Decidable.not_not.1 (by assumption)))) .nil)⟩
    ·
     replace h4 : (decide (a.f3 = b.f3)) = true := by simpa only [Bool.not_eq_true', Bool.not_eq_false'] using h4
     replace h4 := of_decide_eq_true h4
     refine T.skip ?_
     refine T.seq ?_
     refine T.seq ?_
     refine T.region ?_
     refine TL.cons rfl (Step.fieldAddr (q := 0) (off := 4) (n := 1) (one := true) rfl rfl (lt_ok rfl) (by kernel_rfl) (Nat.succ_ne_zero _) rfl) ?_
     refine TL.cons rfl (Step.load_box (c := .d (.ints .u8 a.f4)) rfl rfl (lt_ok rfl) (by kernel_rfl) rfl rfl rfl) ?_
     refine TL.cons rfl (Step.fieldAddr (q := 0) (off := 4) (n := 1) (one := true) rfl rfl (lt_ok rfl) (by kernel_rfl) (Nat.succ_ne_zero _) rfl) ?_
     refine TL.cons rfl (Step.load_box (c := .d (.ints .u8 b.f4)) rfl rfl (lt_ok rfl) (by kernel_rfl) rfl rfl rfl) ?_
     refine TL.cons rfl (Step.call (f := 29) (xs := [.tmp 27, .tmp 29]) (ps := [(.one (.d (.ints .u8 a.f4))), (.one (.d (.ints .u8 b.f4)))]) false (g := .func 29) rfl rfl (lt_ok rfl) rfl (by kernel_rfl) rfl (.cons (.one (.d _)) (.cons (.one (.d _)) .nil)) (ok_laws_eqByteS a.f4 b.f4) (.inr rfl) rfl (by simp) rfl) ?_
     refine TL.cons rfl (Step.not (b := (decide (a.f4 = b.f4))) rfl rfl (lt_ok rfl) rfl) ?_
     refine TL.nil ?_
     refine T.cond (b := !(decide (a.f4 = b.f4))) rfl (fun h5 => ?_) (fun h5 => ?_)
     ·
      replace h5 : (decide (a.f4 = b.f4)) = false := by simpa only [Bool.not_eq_true', Bool.not_eq_false'] using h5
      replace h5 := of_decide_eq_false h5
      refine T.seq ?_
      refine T.region ?_
      refine TL.cons rfl (Step.assign (p := (.one (.d (.bool false)))) rfl rfl (lt_ok rfl) rfl) ?_
      refine TL.nil ?_
      refine T.ret ?_
      exact ⟨[(false, [.d (.bool false)])], (.cons rfl .nil), rfl, [], (RetC.rd' (by (congr 1; symm; first | (apply decide_eq_false; rintro rfl; first | exact absurd rfl ‹¬ _ = _› | contradiction) | (apply decide_eq_true; apply SHead.ext <;> first | assumption | exact Decidable.not_not.1 (by assumption)))) .nil)⟩
     ·
      replace h5 : (decide (a.f4 = b.f4)) = true := by simpa only [Bool.not_eq_true', Bool.not_eq_false'] using h5
      replace h5 := of_decide_eq_true h5
      refine T.skip ?_
      refine T.seq ?_
      refine T.seq ?_
      refine T.region ?_
      refine TL.cons rfl (Step.fieldAddr (q := 0) (off := 5) (n := 5) (one := false) rfl rfl (lt_ok rfl) (by kernel_rfl) (Nat.succ_ne_zero _) rfl) ?_
      refine TL.cons rfl (Step.load_box_agg (n := 5) (qs := [.d (.int .i64 a.f5.f0), .d (.int .i64 a.f5.f1), .d (.ints .u8 a.f5.f2), .d (.ints .u8 a.f5.f3), .d (.bss a.f5.f4)]) rfl rfl (lt_ok rfl) (by kernel_rfl) rfl rfl rfl rfl) ?_
      refine TL.cons rfl (Step.fieldAddr (q := 0) (off := 5) (n := 5) (one := false) rfl rfl (lt_ok rfl) (by kernel_rfl) (Nat.succ_ne_zero _) rfl) ?_
      refine TL.cons rfl (Step.load_box_agg (n := 5) (qs := [.d (.int .i64 b.f5.f0), .d (.int .i64 b.f5.f1), .d (.ints .u8 b.f5.f2), .d (.ints .u8 b.f5.f3), .d (.bss b.f5.f4)]) rfl rfl (lt_ok rfl) (by kernel_rfl) rfl rfl rfl rfl) ?_
      refine TL.cons rfl (Step.call (f := 20) (xs := [.tmp 33, .tmp 35]) (ps := [(.agg [.d (.int .i64 a.f5.f0), .d (.int .i64 a.f5.f1), .d (.ints .u8 a.f5.f2), .d (.ints .u8 a.f5.f3), .d (.bss a.f5.f4)]), (.agg [.d (.int .i64 b.f5.f0), .d (.int .i64 b.f5.f1), .d (.ints .u8 b.f5.f2), .d (.ints .u8 b.f5.f3), .d (.bss b.f5.f4)])]) false (g := .func 20) rfl rfl (lt_ok rfl) rfl (by kernel_rfl) rfl (.cons (.agg (.cons (.d _) (.cons (.d _) (.cons (.d _) (.cons (.d _) (.cons (.d _) .nil)))))) (.cons (.agg (.cons (.d _) (.cons (.d _) (.cons (.d _) (.cons (.d _) (.cons (.d _) .nil)))))) .nil)) (ok_laws_eqQc a.f5 b.f5) (.inr rfl) rfl (by simp) rfl) ?_
      refine TL.cons rfl (Step.not (b := (decide (a.f5 = b.f5))) rfl rfl (lt_ok rfl) rfl) ?_
      refine TL.nil ?_
      refine T.weaken (E' := { tm := [(4, (.one (.d (.bool false)))), (37, (.one (.d (.bool (!(decide (a.f5 = b.f5)))))))], rows := [], boxes := [] }) (Env.le_mk ⟨by kernel_rfl, by kernel_rfl, trivial⟩ trivial trivial) ?_
      refine T.cond (b := !(decide (a.f5 = b.f5))) rfl (fun h6 => ?_) (fun h6 => ?_)
      ·
       replace h6 : (decide (a.f5 = b.f5)) = false := by simpa only [Bool.not_eq_true', Bool.not_eq_false'] using h6
       replace h6 := of_decide_eq_false h6
       refine T.seq ?_
       refine T.region ?_
       refine TL.cons rfl (Step.assign (p := (.one (.d (.bool false)))) rfl rfl (lt_ok rfl) rfl) ?_
       refine TL.nil ?_
       refine T.ret ?_
       exact ⟨[(false, [.d (.bool false)])], (.cons rfl .nil), rfl, [], (RetC.rd' (by (congr 1; symm; first | (apply decide_eq_false; rintro rfl; first | exact absurd rfl ‹¬ _ = _› | contradiction) | (apply decide_eq_true; apply SHead.ext <;> first | assumption | exact Decidable.not_not.1 (by assumption)))) .nil)⟩
      ·
       replace h6 : (decide (a.f5 = b.f5)) = true := by simpa only [Bool.not_eq_true', Bool.not_eq_false'] using h6
       replace h6 := of_decide_eq_true h6
       refine T.skip ?_
       refine T.seq ?_
       refine T.region ?_
       refine TL.cons rfl (Step.assign (p := (.one (.d (.bool true)))) rfl rfl (lt_ok rfl) rfl) ?_
       refine TL.nil ?_
       refine T.ret ?_
       exact ⟨[(false, [.d (.bool true)])], (.cons rfl .nil), rfl, [], (RetC.rd' (by (congr 1; symm; first | (apply decide_eq_false; rintro rfl; first | exact absurd rfl ‹¬ _ = _› | contradiction) | (apply decide_eq_true; apply SHead.ext <;> first | assumption | exact Decidable.not_not.1 (by assumption)))) .nil)⟩
theorem ok_laws_markByteSS (a : List (List Int)) (k : Int) (h0_ : 0 ≤ k) (h1_ : k + cntL (fun x : List Int => (x.length : Int)) a ≤ 4611686018427387904) : MK Try.prog 85 [.one (.mk (.bss a) (.bss (mkBs a k))), .one (.rd (.int .i64 k))] [(false, [.rd (.int .i64 (k + cntL (fun x : List Int => (x.length : Int)) a))])] := by
 refine MK.intro Try.func85 rfl 19 rfl (le_ok rfl) (le_ok rfl) rfl fun w Z IX pin Ts hp => ?_
 refine T.bndRow 900 rfl fun hb_900 => ?_
 simp only [D.size, List.length_map] at hb_900
 refine T.seq ?_
 refine T.region ?_
 refine TL.cons rfl (Step.assign (p := (.one (.d (.int .i64 0)))) rfl rfl (lt_ok rfl) rfl) ?_
 refine TL.nil ?_
 refine T.seq ?_
 refine T.seq ?_
 refine T.region ?_
 refine TL.cons rfl (Step.assign (p := (.one (.d (.int .i64 0)))) rfl rfl (lt_ok rfl) rfl) ?_
 refine TL.nil ?_
 refine T.block ?_
 refine T.loop (ι := Nat) (fun xx_ => { tm := [(0, (.one (.row 900 []))), (4, (.one (.d (.int .i64 0)))), (5, (.one (.d (.int .i64 (xx_ : Int))))), (1, (.one (.d (.int .i64 (k + cntL (fun x : List Int => (x.length : Int)) (a.take xx_))))))], rows := [(900, ((Ts 0), (.bss ((upTo (fun x : List Int => (x.length : Int)) mkB a k xx_).set xx_ (a.getD xx_ [])))))], boxes := [] }) (fun xx_ => xx_ ≤ a.length) (fun xx_ => a.length - xx_) 0 ?_ ?_ ?_
 · exact Env.le_mk ⟨rfl, rfl, by first | exact congrArg (fun x => some (Ts 0, D.bss x)) (upTo_next (df := []) (by omega) rfl) | exact congrArg (fun x => some (Ts 0, D.bss x)) (upTo_first a k []) | rfl | (refine congrArg (fun n => PV.one (.d (.int .i64 n))) ?_; first | omega | (simp; done) | (simp [cntL]; done)), by first | exact congrArg (fun x => some (Ts 0, D.bss x)) (upTo_next (df := []) (by omega) rfl) | exact congrArg (fun x => some (Ts 0, D.bss x)) (upTo_first a k []) | rfl | (refine congrArg (fun n => PV.one (.d (.int .i64 n))) ?_; first | omega | (simp; done) | (simp [cntL]; done)), trivial⟩ ⟨by first | exact congrArg (fun x => some (Ts 0, D.bss x)) (upTo_next (df := []) (by omega) rfl) | exact congrArg (fun x => some (Ts 0, D.bss x)) (upTo_first a k []) | rfl | (refine congrArg (fun n => PV.one (.d (.int .i64 n))) ?_; first | omega | (simp; done) | (simp [cntL]; done)), trivial⟩ trivial
 · exact Nat.zero_le _
 ·
  intro i hx
  try dsimp only at hx ⊢
  refine T.seq ?_
  refine T.seq ?_
  refine T.region ?_
  refine TL.cons rfl (Step.move (p := (.one (.d (.int .i64 (i : Int))))) rfl rfl (lt_ok rfl) rfl) ?_
  refine TL.cons rfl (Step.move (p := (.one (.row 900 []))) rfl rfl (lt_ok rfl) rfl) ?_
  refine TL.cons rfl (Step.len' (e := 22) (z := 1) (d := (.bss ((upTo (fun x : List Int => (x.length : Int)) mkB a k i).set i (a.getD i [])))) (n := a.length) rfl rfl (lt_ok rfl) (by kernel_rfl) rfl rfl (by simp [D.size, upTo_length])) ?_
  refine TL.cons rfl (Step.bin rfl rfl (lt_ok rfl) rfl rfl (Bin.lss (k := .i64) (a := (i : Int)) (b := (a.length : Int)))) ?_
  refine TL.nil ?_
  refine T.cond (b := decide ((i : Int) < (a.length : Int))) rfl (fun h1 => ?_) (fun h1 => ?_)
  ·
   replace h1 := of_decide_eq_true h1
   have hc1 := cntL_take_le (cnt := (fun x : List Int => (x.length : Int))) (fun x => by omega) a (i + 1)
   have hc2 := cntL_take_succ (cnt := (fun x : List Int => (x.length : Int))) (i := i) [] (show i < a.length by omega)
   have hc3 := cntL_nonneg (cnt := (fun x : List Int => (x.length : Int))) (fun x => by omega) (a.take i)
   try dsimp only at hc2
   refine T.skip ?_
   refine T.seq ?_
   refine T.block ?_
   refine T.region ?_
   refine TL.cons rfl (Step.move (p := (.one (.row 900 []))) rfl rfl (lt_ok rfl) rfl) ?_
   refine TL.cons rfl (Step.move (p := (.one (.d (.int .i64 (i : Int))))) rfl rfl (lt_ok rfl) rfl) ?_
   refine TL.cons rfl (Step.index_row (d := (.bss ((upTo (fun x : List Int => (x.length : Int)) mkB a k i).set i (a.getD i [])))) (e := 22) (z := 1) (i := (i : Int)) rfl rfl (lt_ok rfl) (by kernel_rfl) rfl rfl rfl rfl (lt_ok rfl) rfl (by first | omega | (simp; omega)) (by simp only [D.at_, D.cell, D.size, List.length_set, List.length_map, upTo_length]; first | omega | (simp; omega))) ?_
   refine TL.cons rfl (Step.load_row (d := (.bss ((upTo (fun x : List Int => (x.length : Int)) mkB a k i).set i (a.getD i [])))) (c := .row 900 [(i, 0)]) rfl rfl (lt_ok rfl) (by kernel_rfl) rfl rfl (ofRow_sl (cell_set_bss (by simp only [upTo_length]; first | omega | (simp; omega))) rfl)) ?_
   refine TL.cons rfl (Step.move (p := (.one (.d (.int .i64 (k + cntL (fun x : List Int => (x.length : Int)) (a.take i)))))) rfl rfl (lt_ok rfl) rfl) ?_
   refine TL.cons rfl (Step.callM (f := 32) (xs := [.tmp 15, .tmp 16]) (ps := [(.one (.row 900 [(i, 0)])), (.one (.d (.int .i64 (k + cntL (fun x : List Int => (x.length : Int)) (a.take i)))))]) (args := [.one (.mk (.ints .u8 (a.getD i [])) (.ints .u8 (mkB (a.getD i []) (k + cntL (fun x : List Int => (x.length : Int)) (a.take i))))), .one (.rd (.int .i64 (k + cntL (fun x : List Int => (x.length : Int)) (a.take i))))]) (js := [(900, (.bss ((upTo (fun x : List Int => (x.length : Int)) mkB a k i).set i (mkB (a.getD i []) (k + cntL (fun x : List Int => (x.length : Int)) (a.take i))))))]) (x := (.int .i64 ((k + cntL (fun x : List Int => (x.length : Int)) (a.take i)) + ((a.getD i []).length : Int)))) (g := .func 32) rfl rfl (lt_ok rfl) rfl (by kernel_rfl) rfl rfl (.row (T := (Ts 0)) (d := (.bss ((upTo (fun x : List Int => (x.length : Int)) mkB a k i).set i (a.getD i [])))) (e' := (.ints .u8 (mkB (a.getD i []) (k + cntL (fun x : List Int => (x.length : Int)) (a.take i))))) (d' := (.bss ((upTo (fun x : List Int => (x.length : Int)) mkB a k i).set i (mkB (a.getD i []) (k + cntL (fun x : List Int => (x.length : Int)) (a.take i)))))) rfl (cell_set_bss (by simp only [upTo_length]; first | omega | (simp; omega))) rfl putAt_bss2 rfl (by simp [D.size]) rfl rfl (.d .nil)) (ok_laws_markByteS (a.getD i []) (k + cntL (fun x : List Int => (x.length : Int)) (a.take i)) (by omega) (by first | omega | (have := (by assumption); omega))) rfl) ?_
   refine TL.cons rfl (Step.assign (p := (.one (.d (.int .i64 ((k + cntL (fun x : List Int => (x.length : Int)) (a.take i)) + ((a.getD i []).length : Int)))))) rfl rfl (lt_ok rfl) rfl) ?_
   refine TL.nil ?_
   refine T.region ?_
   refine TL.cons rfl (Step.move (p := (.one (.d (.int .i64 (i : Int))))) rfl rfl (lt_ok rfl) rfl) ?_
   refine TL.cons rfl (Step.bin (r := .int .i64 ((i : Int) + 1)) rfl rfl (lt_ok rfl) rfl rfl (Bin.add (a := (i : Int)) (b := 1) (by first | exact wrap_ok (by first | omega | (simp; omega)) (by first | omega | (simp; omega)) | rfl))) ?_
   refine TL.cons rfl (Step.assign (p := (.one (.d (.int .i64 ((i : Int) + 1))))) rfl rfl (lt_ok rfl) rfl) ?_
   refine TL.nil ?_
   exact ⟨i + 1, by omega, by first | omega | (dsimp only; omega), Env.le_mk ⟨rfl, rfl, by first | exact congrArg (fun x => some (Ts 0, D.bss x)) (upTo_next (df := []) (by omega) rfl) | exact congrArg (fun x => some (Ts 0, D.bss x)) (upTo_first a k []) | rfl | (refine congrArg (fun n => PV.one (.d (.int .i64 n))) ?_; first | omega | (simp; done) | (simp [cntL]; done)), by first | exact congrArg (fun x => some (Ts 0, D.bss x)) (upTo_next (df := []) (by omega) rfl) | exact congrArg (fun x => some (Ts 0, D.bss x)) (upTo_first a k []) | rfl | (refine congrArg (fun n => PV.one (.d (.int .i64 n))) ?_; first | omega | (simp; done) | (simp [cntL]; done)), trivial⟩ ⟨by first | exact congrArg (fun x => some (Ts 0, D.bss x)) (upTo_next (df := []) (by omega) rfl) | exact congrArg (fun x => some (Ts 0, D.bss x)) (upTo_first a k []) | rfl | (refine congrArg (fun n => PV.one (.d (.int .i64 n))) ?_; first | omega | (simp; done) | (simp [cntL]; done)), trivial⟩ trivial⟩
  ·
   replace h1 := of_decide_eq_false h1
   refine T.exit ?_
   refine T.seq ?_
   refine T.region ?_
   refine TL.cons rfl (Step.move (p := (.one (.d (.int .i64 (k + cntL (fun x : List Int => (x.length : Int)) (a.take i)))))) rfl rfl (lt_ok rfl) rfl) ?_
   refine TL.cons rfl (Step.assign (p := (.one (.d (.int .i64 (k + cntL (fun x : List Int => (x.length : Int)) (a.take i)))))) rfl rfl (lt_ok rfl) rfl) ?_
   refine TL.nil ?_
   refine T.ret ?_
   exact ⟨⟨⟨[(false, [.d (.int .i64 (k + cntL (fun x : List Int => (x.length : Int)) (a.take i)))])], (.cons rfl .nil), rfl, [], (RetC.rd' (by (congr 1; rw [cntL_all (by omega)])) .nil)⟩, rfl⟩, (.mk' (by exact congrArg (fun x => some (Ts 0, D.bss x)) (upTo_end (by omega))) (.rd .nil'))⟩
theorem ok_laws_markQc (a : SQc) (k : Int) (h0_ : 0 ≤ k) (h1_ : k + a.cm ≤ 4611686018427387904) : MK Try.prog 21 [.agg [.rd (.int .i64 a.f0), .rd (.int .i64 a.f1), .mk (.ints .u8 a.f2) (.ints .u8 (mkB a.f2 k)), .mk (.ints .u8 a.f3) (.ints .u8 (mkB a.f3 (k + (a.f2.length : Int)))), .mk (.bss a.f4) (.bss (mkBs a.f4 ((k + (a.f2.length : Int)) + (a.f3.length : Int))))], .one (.rd (.int .i64 k))] [(false, [.rd (.int .i64 (k + a.cm))])] := by
 refine MK.intro Try.func21 rfl 18 rfl (le_ok rfl) (le_ok rfl) rfl fun w Z IX pin Ts hp => ?_
 have n4 := cntBs_nonneg a.f4
 simp only [SQc.cm] at h1_
 refine T.seq ?_
 refine T.region ?_
 refine TL.cons rfl (Step.box (p := (.agg [.d (.int .i64 a.f0), .d (.int .i64 a.f1), .row 902 [], .row 903 [], .row 904 []])) (ps := [.d (.int .i64 a.f0), .d (.int .i64 a.f1), .row 902 [], .row 903 [], .row 904 []]) rfl rfl (lt_ok rfl) rfl rfl rfl rfl rfl) ?_
 refine TL.cons rfl (Step.assign (p := (.one (.d (.int .i64 0)))) rfl rfl (lt_ok rfl) rfl) ?_
 refine TL.nil ?_
 refine T.seq ?_
 refine T.region ?_
 refine TL.cons rfl (Step.fieldAddr (q := 0) (off := 2) (n := 1) (one := true) rfl rfl (lt_ok rfl) (by kernel_rfl) (Nat.succ_ne_zero _) rfl) ?_
 refine TL.cons rfl (Step.load_box (c := .row 902 []) rfl rfl (lt_ok rfl) (by kernel_rfl) rfl rfl rfl) ?_
 refine TL.cons rfl (Step.move (p := (.one (.d (.int .i64 k)))) rfl rfl (lt_ok rfl) rfl) ?_
 refine TL.cons rfl (Step.callM (f := 32) (xs := [.tmp 6, .tmp 7]) (ps := [(.one (.row 902 [])), (.one (.d (.int .i64 k)))]) (args := [.one (.mk (.ints .u8 a.f2) (.ints .u8 (mkB a.f2 k))), .one (.rd (.int .i64 k))]) (js := [(902, (.ints .u8 (mkB a.f2 k)))]) (x := (.int .i64 (k + (a.f2.length : Int)))) (g := .func 32) rfl rfl (lt_ok rfl) rfl (by kernel_rfl) rfl rfl (.row (T := (Ts 2)) (d := (.ints .u8 a.f2)) (e' := (.ints .u8 (mkB a.f2 k))) (d' := (.ints .u8 (mkB a.f2 k))) rfl rfl rfl rfl rfl (by simp [D.size, mkL_length]) rfl rfl (.d .nil)) (ok_laws_markByteS a.f2 k (by omega) (by first | omega | (have := (by assumption); omega))) rfl) ?_
 refine TL.cons rfl (Step.assign (p := (.one (.d (.int .i64 (k + (a.f2.length : Int)))))) rfl rfl (lt_ok rfl) rfl) ?_
 refine TL.nil ?_
 refine T.seq ?_
 refine T.region ?_
 refine TL.cons rfl (Step.fieldAddr (q := 0) (off := 3) (n := 1) (one := true) rfl rfl (lt_ok rfl) (by kernel_rfl) (Nat.succ_ne_zero _) rfl) ?_
 refine TL.cons rfl (Step.load_box (c := .row 903 []) rfl rfl (lt_ok rfl) (by kernel_rfl) rfl rfl rfl) ?_
 refine TL.cons rfl (Step.move (p := (.one (.d (.int .i64 (k + (a.f2.length : Int)))))) rfl rfl (lt_ok rfl) rfl) ?_
 refine TL.cons rfl (Step.callM (f := 32) (xs := [.tmp 10, .tmp 11]) (ps := [(.one (.row 903 [])), (.one (.d (.int .i64 (k + (a.f2.length : Int)))))]) (args := [.one (.mk (.ints .u8 a.f3) (.ints .u8 (mkB a.f3 (k + (a.f2.length : Int))))), .one (.rd (.int .i64 (k + (a.f2.length : Int))))]) (js := [(903, (.ints .u8 (mkB a.f3 (k + (a.f2.length : Int)))))]) (x := (.int .i64 ((k + (a.f2.length : Int)) + (a.f3.length : Int)))) (g := .func 32) rfl rfl (lt_ok rfl) rfl (by kernel_rfl) rfl rfl (.row (T := (Ts 3)) (d := (.ints .u8 a.f3)) (e' := (.ints .u8 (mkB a.f3 (k + (a.f2.length : Int))))) (d' := (.ints .u8 (mkB a.f3 (k + (a.f2.length : Int))))) rfl rfl rfl rfl rfl (by simp [D.size, mkL_length]) rfl rfl (.d .nil)) (ok_laws_markByteS a.f3 (k + (a.f2.length : Int)) (by omega) (by first | omega | (have := (by assumption); omega))) rfl) ?_
 refine TL.cons rfl (Step.assign (p := (.one (.d (.int .i64 ((k + (a.f2.length : Int)) + (a.f3.length : Int)))))) rfl rfl (lt_ok rfl) rfl) ?_
 refine TL.nil ?_
 refine T.seq ?_
 refine T.region ?_
 refine TL.cons rfl (Step.fieldAddr (q := 0) (off := 4) (n := 1) (one := true) rfl rfl (lt_ok rfl) (by kernel_rfl) (Nat.succ_ne_zero _) rfl) ?_
 refine TL.cons rfl (Step.load_box (c := .row 904 []) rfl rfl (lt_ok rfl) (by kernel_rfl) rfl rfl rfl) ?_
 refine TL.cons rfl (Step.move (p := (.one (.d (.int .i64 ((k + (a.f2.length : Int)) + (a.f3.length : Int)))))) rfl rfl (lt_ok rfl) rfl) ?_
 have nn1 := cntBs_nonneg a.f4
 refine TL.cons rfl (Step.callM (f := 85) (xs := [.tmp 14, .tmp 15]) (ps := [(.one (.row 904 [])), (.one (.d (.int .i64 ((k + (a.f2.length : Int)) + (a.f3.length : Int)))))]) (args := [.one (.mk (.bss a.f4) (.bss (mkBs a.f4 ((k + (a.f2.length : Int)) + (a.f3.length : Int))))), .one (.rd (.int .i64 ((k + (a.f2.length : Int)) + (a.f3.length : Int))))]) (js := [(904, (.bss (mkBs a.f4 ((k + (a.f2.length : Int)) + (a.f3.length : Int)))))]) (x := (.int .i64 (((k + (a.f2.length : Int)) + (a.f3.length : Int)) + cntL (fun x : List Int => (x.length : Int)) a.f4))) (g := .func 85) rfl rfl (lt_ok rfl) rfl (by kernel_rfl) rfl rfl (.row (T := (Ts 4)) (d := (.bss a.f4)) (e' := (.bss (mkBs a.f4 ((k + (a.f2.length : Int)) + (a.f3.length : Int))))) (d' := (.bss (mkBs a.f4 ((k + (a.f2.length : Int)) + (a.f3.length : Int))))) rfl rfl rfl rfl rfl (by simp [D.size, mkL_length]) rfl rfl (.d .nil)) (ok_laws_markByteSS a.f4 ((k + (a.f2.length : Int)) + (a.f3.length : Int)) (by omega) (by first | omega | (have := cntBs_le (xs := a.f4) (by assumption); omega))) rfl) ?_
 refine TL.cons rfl (Step.assign (p := (.one (.d (.int .i64 (((k + (a.f2.length : Int)) + (a.f3.length : Int)) + cntL (fun x : List Int => (x.length : Int)) a.f4))))) rfl rfl (lt_ok rfl) rfl) ?_
 refine TL.nil ?_
 refine T.seq ?_
 refine T.region ?_
 refine TL.cons rfl (Step.move (p := (.one (.d (.int .i64 (((k + (a.f2.length : Int)) + (a.f3.length : Int)) + cntL (fun x : List Int => (x.length : Int)) a.f4))))) rfl rfl (lt_ok rfl) rfl) ?_
 refine TL.cons rfl (Step.assign (p := (.one (.d (.int .i64 (((k + (a.f2.length : Int)) + (a.f3.length : Int)) + cntL (fun x : List Int => (x.length : Int)) a.f4))))) rfl rfl (lt_ok rfl) rfl) ?_
 refine TL.nil ?_
 refine T.ret ?_
 exact ⟨⟨⟨[(false, [.d (.int .i64 (((k + (a.f2.length : Int)) + (a.f3.length : Int)) + cntL (fun x : List Int => (x.length : Int)) a.f4))])], (.cons rfl .nil), rfl, [], (RetC.rd' (by first | rfl | (congr 1; simp only [SQc.cm]; omega)) .nil)⟩, rfl⟩, (.rd (.rd (.mk' (by rfl) (.mk' (by rfl) (.mk' (by rfl) (.rd .nil'))))))⟩
theorem ok_laws_markHead (a : SHead) (k : Int) (h0_ : 0 ≤ k) (h1_ : k + a.cm ≤ 4611686018427387904) : MK Try.prog 66 [.agg [.rd (.int .i64 a.f0), .rd (.int .i64 a.f1), .rd (.int .i64 a.f2), .mk (.ints .u8 a.f3) (.ints .u8 (mkB a.f3 k)), .mk (.ints .u8 a.f4) (.ints .u8 (mkB a.f4 (k + (a.f3.length : Int)))), .rd (.int .i64 a.f5.f0), .rd (.int .i64 a.f5.f1), .mk (.ints .u8 a.f5.f2) (.ints .u8 (mkB a.f5.f2 ((k + (a.f3.length : Int)) + (a.f4.length : Int)))), .mk (.ints .u8 a.f5.f3) (.ints .u8 (mkB a.f5.f3 (((k + (a.f3.length : Int)) + (a.f4.length : Int)) + (a.f5.f2.length : Int)))), .mk (.bss a.f5.f4) (.bss (mkBs a.f5.f4 ((((k + (a.f3.length : Int)) + (a.f4.length : Int)) + (a.f5.f2.length : Int)) + (a.f5.f3.length : Int))))], .one (.rd (.int .i64 k))] [(false, [.rd (.int .i64 (k + a.cm))])] := by
 refine MK.intro Try.func66 rfl 18 rfl (le_ok rfl) (le_ok rfl) rfl fun w Z IX pin Ts hp => ?_
 have n5 := SQc.cm_nn a.f5
 simp only [SHead.cm] at h1_
 refine T.seq ?_
 refine T.region ?_
 refine TL.cons rfl (Step.box (p := (.agg [.d (.int .i64 a.f0), .d (.int .i64 a.f1), .d (.int .i64 a.f2), .row 903 [], .row 904 [], .d (.int .i64 a.f5.f0), .d (.int .i64 a.f5.f1), .row 907 [], .row 908 [], .row 909 []])) (ps := [.d (.int .i64 a.f0), .d (.int .i64 a.f1), .d (.int .i64 a.f2), .row 903 [], .row 904 [], .d (.int .i64 a.f5.f0), .d (.int .i64 a.f5.f1), .row 907 [], .row 908 [], .row 909 []]) rfl rfl (lt_ok rfl) rfl rfl rfl rfl rfl) ?_
 refine TL.cons rfl (Step.assign (p := (.one (.d (.int .i64 0)))) rfl rfl (lt_ok rfl) rfl) ?_
 refine TL.nil ?_
 refine T.seq ?_
 refine T.region ?_
 refine TL.cons rfl (Step.fieldAddr (q := 0) (off := 3) (n := 1) (one := true) rfl rfl (lt_ok rfl) (by kernel_rfl) (Nat.succ_ne_zero _) rfl) ?_
 refine TL.cons rfl (Step.load_box (c := .row 903 []) rfl rfl (lt_ok rfl) (by kernel_rfl) rfl rfl rfl) ?_
 refine TL.cons rfl (Step.move (p := (.one (.d (.int .i64 k)))) rfl rfl (lt_ok rfl) rfl) ?_
 refine TL.cons rfl (Step.callM (f := 32) (xs := [.tmp 6, .tmp 7]) (ps := [(.one (.row 903 [])), (.one (.d (.int .i64 k)))]) (args := [.one (.mk (.ints .u8 a.f3) (.ints .u8 (mkB a.f3 k))), .one (.rd (.int .i64 k))]) (js := [(903, (.ints .u8 (mkB a.f3 k)))]) (x := (.int .i64 (k + (a.f3.length : Int)))) (g := .func 32) rfl rfl (lt_ok rfl) rfl (by kernel_rfl) rfl rfl (.row (T := (Ts 3)) (d := (.ints .u8 a.f3)) (e' := (.ints .u8 (mkB a.f3 k))) (d' := (.ints .u8 (mkB a.f3 k))) rfl rfl rfl rfl rfl (by simp [D.size, mkL_length]) rfl rfl (.d .nil)) (ok_laws_markByteS a.f3 k (by omega) (by first | omega | (have := (by assumption); omega))) rfl) ?_
 refine TL.cons rfl (Step.assign (p := (.one (.d (.int .i64 (k + (a.f3.length : Int)))))) rfl rfl (lt_ok rfl) rfl) ?_
 refine TL.nil ?_
 refine T.seq ?_
 refine T.region ?_
 refine TL.cons rfl (Step.fieldAddr (q := 0) (off := 4) (n := 1) (one := true) rfl rfl (lt_ok rfl) (by kernel_rfl) (Nat.succ_ne_zero _) rfl) ?_
 refine TL.cons rfl (Step.load_box (c := .row 904 []) rfl rfl (lt_ok rfl) (by kernel_rfl) rfl rfl rfl) ?_
 refine TL.cons rfl (Step.move (p := (.one (.d (.int .i64 (k + (a.f3.length : Int)))))) rfl rfl (lt_ok rfl) rfl) ?_
 refine TL.cons rfl (Step.callM (f := 32) (xs := [.tmp 10, .tmp 11]) (ps := [(.one (.row 904 [])), (.one (.d (.int .i64 (k + (a.f3.length : Int)))))]) (args := [.one (.mk (.ints .u8 a.f4) (.ints .u8 (mkB a.f4 (k + (a.f3.length : Int))))), .one (.rd (.int .i64 (k + (a.f3.length : Int))))]) (js := [(904, (.ints .u8 (mkB a.f4 (k + (a.f3.length : Int)))))]) (x := (.int .i64 ((k + (a.f3.length : Int)) + (a.f4.length : Int)))) (g := .func 32) rfl rfl (lt_ok rfl) rfl (by kernel_rfl) rfl rfl (.row (T := (Ts 4)) (d := (.ints .u8 a.f4)) (e' := (.ints .u8 (mkB a.f4 (k + (a.f3.length : Int))))) (d' := (.ints .u8 (mkB a.f4 (k + (a.f3.length : Int))))) rfl rfl rfl rfl rfl (by simp [D.size, mkL_length]) rfl rfl (.d .nil)) (ok_laws_markByteS a.f4 (k + (a.f3.length : Int)) (by omega) (by first | omega | (have := (by assumption); omega))) rfl) ?_
 refine TL.cons rfl (Step.assign (p := (.one (.d (.int .i64 ((k + (a.f3.length : Int)) + (a.f4.length : Int)))))) rfl rfl (lt_ok rfl) rfl) ?_
 refine TL.nil ?_
 refine T.seq ?_
 refine T.region ?_
 refine TL.cons rfl (Step.fieldAddr (q := 0) (off := 5) (n := 5) (one := false) rfl rfl (lt_ok rfl) (by kernel_rfl) (Nat.succ_ne_zero _) rfl) ?_
 refine TL.cons rfl (Step.load_box_agg (n := 5) (qs := [.d (.int .i64 a.f5.f0), .d (.int .i64 a.f5.f1), .row 907 [], .row 908 [], .row 909 []]) rfl rfl (lt_ok rfl) (by kernel_rfl) rfl rfl rfl rfl) ?_
 refine TL.cons rfl (Step.move (p := (.one (.d (.int .i64 ((k + (a.f3.length : Int)) + (a.f4.length : Int)))))) rfl rfl (lt_ok rfl) rfl) ?_
 have nn1 := SQc.cm_nn a.f5
 refine TL.cons rfl (Step.callM (f := 21) (xs := [.tmp 14, .tmp 15]) (ps := [(.agg [.d (.int .i64 a.f5.f0), .d (.int .i64 a.f5.f1), .row 907 [], .row 908 [], .row 909 []]), (.one (.d (.int .i64 ((k + (a.f3.length : Int)) + (a.f4.length : Int)))))]) (args := [.agg [.rd (.int .i64 a.f5.f0), .rd (.int .i64 a.f5.f1), .mk (.ints .u8 a.f5.f2) (.ints .u8 (mkB a.f5.f2 ((k + (a.f3.length : Int)) + (a.f4.length : Int)))), .mk (.ints .u8 a.f5.f3) (.ints .u8 (mkB a.f5.f3 (((k + (a.f3.length : Int)) + (a.f4.length : Int)) + (a.f5.f2.length : Int)))), .mk (.bss a.f5.f4) (.bss (mkBs a.f5.f4 ((((k + (a.f3.length : Int)) + (a.f4.length : Int)) + (a.f5.f2.length : Int)) + (a.f5.f3.length : Int))))], .one (.rd (.int .i64 ((k + (a.f3.length : Int)) + (a.f4.length : Int))))]) (js := [(907, (.ints .u8 (mkB a.f5.f2 ((k + (a.f3.length : Int)) + (a.f4.length : Int))))), (908, (.ints .u8 (mkB a.f5.f3 (((k + (a.f3.length : Int)) + (a.f4.length : Int)) + (a.f5.f2.length : Int))))), (909, (.bss (mkBs a.f5.f4 ((((k + (a.f3.length : Int)) + (a.f4.length : Int)) + (a.f5.f2.length : Int)) + (a.f5.f3.length : Int)))))]) (x := (.int .i64 (((k + (a.f3.length : Int)) + (a.f4.length : Int)) + a.f5.cm))) (g := .func 21) rfl rfl (lt_ok rfl) rfl (by kernel_rfl) rfl rfl (.d (.d (.row (T := (Ts 7)) (d := (.ints .u8 a.f5.f2)) (e' := (.ints .u8 (mkB a.f5.f2 ((k + (a.f3.length : Int)) + (a.f4.length : Int))))) (d' := (.ints .u8 (mkB a.f5.f2 ((k + (a.f3.length : Int)) + (a.f4.length : Int))))) rfl rfl rfl rfl rfl (by simp [D.size, mkL_length]) rfl rfl (.row (T := (Ts 8)) (d := (.ints .u8 a.f5.f3)) (e' := (.ints .u8 (mkB a.f5.f3 (((k + (a.f3.length : Int)) + (a.f4.length : Int)) + (a.f5.f2.length : Int))))) (d' := (.ints .u8 (mkB a.f5.f3 (((k + (a.f3.length : Int)) + (a.f4.length : Int)) + (a.f5.f2.length : Int))))) rfl rfl rfl rfl rfl (by simp [D.size, mkL_length]) rfl rfl (.row (T := (Ts 9)) (d := (.bss a.f5.f4)) (e' := (.bss (mkBs a.f5.f4 ((((k + (a.f3.length : Int)) + (a.f4.length : Int)) + (a.f5.f2.length : Int)) + (a.f5.f3.length : Int))))) (d' := (.bss (mkBs a.f5.f4 ((((k + (a.f3.length : Int)) + (a.f4.length : Int)) + (a.f5.f2.length : Int)) + (a.f5.f3.length : Int))))) rfl rfl rfl rfl rfl (by simp [D.size, mkL_length]) rfl rfl (.d .nil)))))) (ok_laws_markQc a.f5 ((k + (a.f3.length : Int)) + (a.f4.length : Int)) (by omega) (by first | omega | (have := SQc.cm_le (x := a.f5) (by assumption); omega))) rfl) ?_
 refine TL.cons rfl (Step.assign (p := (.one (.d (.int .i64 (((k + (a.f3.length : Int)) + (a.f4.length : Int)) + a.f5.cm))))) rfl rfl (lt_ok rfl) rfl) ?_
 refine TL.nil ?_
 refine T.seq ?_
 refine T.region ?_
 refine TL.cons rfl (Step.move (p := (.one (.d (.int .i64 (((k + (a.f3.length : Int)) + (a.f4.length : Int)) + a.f5.cm))))) rfl rfl (lt_ok rfl) rfl) ?_
 refine TL.cons rfl (Step.assign (p := (.one (.d (.int .i64 (((k + (a.f3.length : Int)) + (a.f4.length : Int)) + a.f5.cm))))) rfl rfl (lt_ok rfl) rfl) ?_
 refine TL.nil ?_
 refine T.ret ?_
 exact ⟨⟨⟨[(false, [.d (.int .i64 (((k + (a.f3.length : Int)) + (a.f4.length : Int)) + a.f5.cm))])], (.cons rfl .nil), rfl, [], (RetC.rd' (by first | rfl | (congr 1; simp only [SHead.cm]; omega)) .nil)⟩, rfl⟩, (.rd (.rd (.rd (.mk' (by rfl) (.mk' (by rfl) (.rd (.rd (.mk' (by rfl) (.mk' (by rfl) (.mk' (by rfl) (.rd .nil')))))))))))⟩
theorem ok_laws_FnExactPutHead (aL : SLimits) (aB : List Int) (aH : SHead) (h0_ : aL.ok) (h1_ : U8s aB) (h2_ : aH.ok) : RO Try.prog 11 [.agg aL.cells, .one (.ints .u8 aB), .agg aH.cells] [(false, [.rd (.bool true)])] := by
 refine RO.intro Try.func11 rfl 125 rfl (le_ok rfl) fun w Z => ?_
 refine T.bnd 1 0 rfl rfl fun hb_1_0 => ?_
 simp only [D.size, List.length_map] at hb_1_0
 refine T.seq ?_
 refine T.region ?_
 refine TL.cons rfl (Step.box (p := (.agg [.d (.int .i64 aL.f0), .d (.int .i64 aL.f1), .d (.int .i64 aL.f2), .d (.int .i64 aL.f3), .d (.int .i64 aL.f4)])) (ps := [.d (.int .i64 aL.f0), .d (.int .i64 aL.f1), .d (.int .i64 aL.f2), .d (.int .i64 aL.f3), .d (.int .i64 aL.f4)]) rfl rfl (lt_ok rfl) rfl rfl rfl rfl rfl) ?_
 refine TL.cons rfl (Step.box (p := (.agg [.d (.int .i64 aH.f0), .d (.int .i64 aH.f1), .d (.int .i64 aH.f2), .d (.ints .u8 aH.f3), .d (.ints .u8 aH.f4), .d (.int .i64 aH.f5.f0), .d (.int .i64 aH.f5.f1), .d (.ints .u8 aH.f5.f2), .d (.ints .u8 aH.f5.f3), .d (.bss aH.f5.f4)])) (ps := [.d (.int .i64 aH.f0), .d (.int .i64 aH.f1), .d (.int .i64 aH.f2), .d (.ints .u8 aH.f3), .d (.ints .u8 aH.f4), .d (.int .i64 aH.f5.f0), .d (.int .i64 aH.f5.f1), .d (.ints .u8 aH.f5.f2), .d (.ints .u8 aH.f5.f3), .d (.bss aH.f5.f4)]) rfl rfl (lt_ok rfl) rfl rfl rfl rfl rfl) ?_
 refine TL.cons rfl (Step.assign (p := (.one (.d (.bool false)))) rfl rfl (lt_ok rfl) rfl) ?_
 refine TL.nil ?_
 refine T.seq ?_
 refine T.seq ?_
 refine T.region ?_
 refine TL.cons rfl (Step.move (p := (.one (.d (.ints .u8 aB)))) rfl rfl (lt_ok rfl) rfl) ?_
 refine TL.cons rfl (Step.len (e := 5) (z := 1) (d := (.ints .u8 aB)) rfl rfl (lt_ok rfl) (by kernel_rfl) rfl rfl) ?_
 refine TL.cons rfl (Step.bin rfl rfl (lt_ok rfl) rfl rfl (Bin.gtr (k := .i64) (a := (aB.length : Int)) (b := 1048576))) ?_
 refine TL.nil ?_
 refine T.cond (b := decide (1048576 < (aB.length : Int))) rfl (fun h1 => ?_) (fun h1 => ?_)
 ·
  replace h1 := of_decide_eq_true h1
  refine T.seq ?_
  refine T.region ?_
  refine TL.cons rfl (Step.assign (p := (.one (.d (.bool true)))) rfl rfl (lt_ok rfl) rfl) ?_
  refine TL.nil ?_
  refine T.ret ?_
  exact ⟨[(false, [.d (.bool true)])], (.cons rfl .nil), rfl, [], (RetC.rd' (by rfl) .nil)⟩
 ·
  replace h1 := of_decide_eq_false h1
  refine T.skip ?_
  refine T.seq ?_
  refine T.region ?_
  refine TL.cons rfl (Step.assign (p := (.one (.d (.int .i64 1048576)))) rfl rfl (lt_ok rfl) rfl) ?_
  refine TL.nil ?_
  refine T.seq ?_
  refine T.region ?_
  refine TL.cons rfl (Step.load_box_agg (n := 10) (qs := [.d (.int .i64 aH.f0), .d (.int .i64 aH.f1), .d (.int .i64 aH.f2), .d (.ints .u8 aH.f3), .d (.ints .u8 aH.f4), .d (.int .i64 aH.f5.f0), .d (.int .i64 aH.f5.f1), .d (.ints .u8 aH.f5.f2), .d (.ints .u8 aH.f5.f3), .d (.bss aH.f5.f4)]) rfl rfl (lt_ok rfl) (by kernel_rfl) rfl rfl rfl rfl) ?_
  refine TL.cons rfl (Step.move (p := (.one (.d (.int .i64 1048576)))) rfl rfl (lt_ok rfl) rfl) ?_
  refine TL.cons rfl (Step.call (f := 61) (xs := [.tmp 22, .tmp 23]) (ps := [(.agg [.d (.int .i64 aH.f0), .d (.int .i64 aH.f1), .d (.int .i64 aH.f2), .d (.ints .u8 aH.f3), .d (.ints .u8 aH.f4), .d (.int .i64 aH.f5.f0), .d (.int .i64 aH.f5.f1), .d (.ints .u8 aH.f5.f2), .d (.ints .u8 aH.f5.f3), .d (.bss aH.f5.f4)]), (.one (.d (.int .i64 1048576)))]) false (g := .func 61) rfl rfl (lt_ok rfl) rfl (by kernel_rfl) rfl (.cons (.agg (.cons (.d _) (.cons (.d _) (.cons (.d _) (.cons (.d _) (.cons (.d _) (.cons (.d _) (.cons (.d _) (.cons (.d _) (.cons (.d _) (.cons (.d _) .nil))))))))))) (.cons (.one (.d _)) .nil)) (ok_laws_szHead aH 1048576 (by omega) (by omega)) (.inr rfl) rfl (by simp) rfl) ?_
  refine TL.cons rfl (Step.assign (p := (.one (.d (.int .i64 (aH.sz 1048576))))) rfl rfl (lt_ok rfl) rfl) ?_
  refine TL.nil ?_
  refine T.seq ?_
  refine T.seq ?_
  refine T.region ?_
  refine TL.cons rfl (Step.move (p := (.one (.d (.int .i64 (aH.sz 1048576))))) rfl rfl (lt_ok rfl) rfl) ?_
  refine TL.cons rfl (Step.bin rfl rfl (lt_ok rfl) rfl rfl (Bin.lss (k := .i64) (a := (aH.sz 1048576)) (b := 0))) ?_
  refine TL.nil ?_
  refine T.cond (b := decide ((aH.sz 1048576) < 0)) rfl (fun h3 => ?_) (fun h3 => ?_)
  ·
   replace h3 := of_decide_eq_true h3
   refine T.seq ?_
   refine T.region ?_
   refine TL.cons rfl (Step.assign (p := (.one (.d (.bool true)))) rfl rfl (lt_ok rfl) rfl) ?_
   refine TL.nil ?_
   refine T.ret ?_
   exact ⟨[(false, [.d (.bool true)])], (.cons rfl .nil), rfl, [], (RetC.rd' (by rfl) .nil)⟩
  ·
   replace h3 := of_decide_eq_false h3
   have z2_le : aH.sz 1048576 ≤ 1048576 := SHead.sz_le _ (by omega)
   have z2_sm := SHead.sz_sm _ (by omega : (0 : Int) ≤ 1048576) (by omega : (1048576 : Int) ≤ 1048576) (by omega : (0 : Int) ≤ aH.sz 1048576)
   refine T.skip ?_
   refine T.seq ?_
   have nn4 := @putHead_len aL aB aH (by assumption)
   refine T.draw [⟨28, (.agg [.d (.int .i64 aL.f0), .d (.int .i64 aL.f1), .d (.int .i64 aL.f2), .d (.int .i64 aL.f3), .d (.int .i64 aL.f4)]), []⟩, ⟨29, (.agg [.d (.int .i64 aL.f0), .d (.int .i64 aL.f1), .d (.int .i64 aL.f2), .d (.int .i64 aL.f3), .d (.int .i64 aL.f4)]), []⟩, ⟨30, (.one (.d (.ints .u8 aB))), []⟩, ⟨31, (.one (.row 1031 [])), [(1031, (5, (.ints .u8 aB)))]⟩, ⟨32, (.agg [.d (.int .i64 aH.f0), .d (.int .i64 aH.f1), .d (.int .i64 aH.f2), .d (.ints .u8 aH.f3), .d (.ints .u8 aH.f4), .d (.int .i64 aH.f5.f0), .d (.int .i64 aH.f5.f1), .d (.ints .u8 aH.f5.f2), .d (.ints .u8 aH.f5.f3), .d (.bss aH.f5.f4)]), []⟩, ⟨33, (.agg [.d (.int .i64 aH.f0), .d (.int .i64 aH.f1), .d (.int .i64 aH.f2), .row 4033 [], .row 5033 [], .d (.int .i64 aH.f5.f0), .d (.int .i64 aH.f5.f1), .row 8033 [], .row 9033 [], .row 10033 []]), [(10033, (22, (.bss aH.f5.f4))), (9033, (5, (.ints .u8 aH.f5.f3))), (8033, (5, (.ints .u8 aH.f5.f2))), (5033, (5, (.ints .u8 aH.f4))), (4033, (5, (.ints .u8 aH.f3)))]⟩, ⟨34, (.tup [(false, [.row 1034 []]), (false, [.d (.bool (headOk aL aH))])]), [(1034, (5, (.ints .u8 (putHead aL aB aH))))]⟩, ⟨27, (.tup [(false, [.row 1034 []]), (false, [.d (.bool (headOk aL aH))])]), []⟩, ⟨35, (.one (.row 1034 [])), []⟩, ⟨36, (.one (.d (.bool (headOk aL aH)))), []⟩, ⟨8, (.one (.row 1034 [])), []⟩, ⟨9, (.one (.d (.bool (headOk aL aH)))), []⟩] (by kernel_rfl) (by kernel_rfl) ?_ ?_
   ·
    refine .cons (fun E hA_ => by have g3 := hA_.get 3 (by decide); exact OpStep.plain rfl (Step.load_box_agg (n := 5) (qs := [.d (.int .i64 aL.f0), .d (.int .i64 aL.f1), .d (.int .i64 aL.f2), .d (.int .i64 aL.f3), .d (.int .i64 aL.f4)]) (t := 28) rfl rfl (by exact lt_ok rfl) (by kernel_rfl) (show Env.ev E (.tmp 3) = _ from g3.trans rfl) (by exact hA_.box rfl) rfl rfl)) ?_
    refine .cons (fun E hA_ => by have g28 := hA_.get 28 (by decide); exact OpStep.plain rfl (Step.call (f := 26) (xs := [.tmp 28]) (ps := [(.agg [.d (.int .i64 aL.f0), .d (.int .i64 aL.f1), .d (.int .i64 aL.f2), .d (.int .i64 aL.f3), .d (.int .i64 aL.f4)])]) false (g := .func 26) (t := 29) rfl rfl (by exact lt_ok rfl) rfl (by kernel_rfl) (evs_cons (show Env.ev E (.tmp 28) = _ from g28.trans rfl) (rfl)) (.cons (.agg (.cons (.d _) (.cons (.d _) (.cons (.d _) (.cons (.d _) (.cons (.d _) .nil)))))) .nil) (ok_laws_toLimits aL) (.inr rfl) (At.freshRows hA_ rfl) (by simp) rfl)) ?_
    refine .cons (fun E hA_ => by have g1 := hA_.get 1 (by decide); exact OpStep.plain rfl (Step.move (p := (.one (.d (.ints .u8 aB)))) (t := 30) rfl rfl (by exact lt_ok rfl) (show Env.ev E (.tmp 1) = _ from g1.trans rfl))) ?_
    refine .cons (fun E hA_ => by have g30 := hA_.get 30 (by decide); exact OpStep.plain rfl (Step.call (f := 49) (xs := [.tmp 30]) (ps := [(.one (.d (.ints .u8 aB)))]) false (g := .func 49) (t := 31) rfl rfl (by exact lt_ok rfl) rfl (by kernel_rfl) (evs_cons (show Env.ev E (.tmp 30) = _ from g30.trans rfl) (rfl)) (.cons (.one (.d _)) .nil) (ok_laws_toByteS aB (by first | omega | assumption | exact mem_getD h0_.2 (by omega))) (.inr rfl) (At.freshRows hA_ rfl) (by simp) rfl)) ?_
    refine .cons (fun E hA_ => by have g5 := hA_.get 5 (by decide); exact OpStep.plain rfl (Step.load_box_agg (n := 10) (qs := [.d (.int .i64 aH.f0), .d (.int .i64 aH.f1), .d (.int .i64 aH.f2), .d (.ints .u8 aH.f3), .d (.ints .u8 aH.f4), .d (.int .i64 aH.f5.f0), .d (.int .i64 aH.f5.f1), .d (.ints .u8 aH.f5.f2), .d (.ints .u8 aH.f5.f3), .d (.bss aH.f5.f4)]) (t := 32) rfl rfl (by exact lt_ok rfl) (by kernel_rfl) (show Env.ev E (.tmp 5) = _ from g5.trans rfl) (by exact hA_.box rfl) rfl rfl)) ?_
    refine .cons (fun E hA_ => by have g32 := hA_.get 32 (by decide); exact OpStep.plain rfl (Step.call (f := 63) (xs := [.tmp 32]) (ps := [(.agg [.d (.int .i64 aH.f0), .d (.int .i64 aH.f1), .d (.int .i64 aH.f2), .d (.ints .u8 aH.f3), .d (.ints .u8 aH.f4), .d (.int .i64 aH.f5.f0), .d (.int .i64 aH.f5.f1), .d (.ints .u8 aH.f5.f2), .d (.ints .u8 aH.f5.f3), .d (.bss aH.f5.f4)])]) false (g := .func 63) (t := 33) rfl rfl (by exact lt_ok rfl) rfl (by kernel_rfl) (evs_cons (show Env.ev E (.tmp 32) = _ from g32.trans rfl) (rfl)) (.cons (.agg (.cons (.d _) (.cons (.d _) (.cons (.d _) (.cons (.d _) (.cons (.d _) (.cons (.d _) (.cons (.d _) (.cons (.d _) (.cons (.d _) (.cons (.d _) .nil))))))))))) .nil) (ok_laws_toHead aH (by first | assumption | exact ⟨‹_›, ‹_›⟩ | (refine mem_getD (p := SHead.sm) h0_.2 (by omega)) | exact mem_getD h0_.2 (by omega))) (.inr rfl) (At.freshRows hA_ rfl) (by simp) rfl)) ?_
    refine .cons (fun E hA_ => by have g29 := hA_.get 29 (by decide); have g31 := hA_.get 31 (by decide); have g33 := hA_.get 33 (by decide); exact OpStep.plain rfl (Step.call (f := 62) (xs := [.tmp 29, .tmp 31, .tmp 33]) (ps := [(.agg [.d (.int .i64 aL.f0), .d (.int .i64 aL.f1), .d (.int .i64 aL.f2), .d (.int .i64 aL.f3), .d (.int .i64 aL.f4)]), (.one (.row 1031 [])), (.agg [.d (.int .i64 aH.f0), .d (.int .i64 aH.f1), .d (.int .i64 aH.f2), .row 4033 [], .row 5033 [], .d (.int .i64 aH.f5.f0), .d (.int .i64 aH.f5.f1), .row 8033 [], .row 9033 [], .row 10033 []])]) false (g := .func 62) (t := 34) rfl rfl (by exact lt_ok rfl) rfl (by kernel_rfl) (evs_cons (show Env.ev E (.tmp 29) = _ from g29.trans rfl) (evs_cons (show Env.ev E (.tmp 31) = _ from g31.trans rfl) (evs_cons (show Env.ev E (.tmp 33) = _ from g33.trans rfl) (rfl)))) (.cons (.agg (.cons (.d _) (.cons (.d _) (.cons (.d _) (.cons (.d _) (.cons (.d _) .nil)))))) (.cons (.one (.row rfl (by exact (hA_.row 1031 (by kernel_rfl)).trans rfl) rfl rfl)) (.cons (.agg (.cons (.d _) (.cons (.d _) (.cons (.d _) (.cons (.row rfl (by exact (hA_.row 4033 (by kernel_rfl)).trans rfl) rfl rfl) (.cons (.row rfl (by exact (hA_.row 5033 (by kernel_rfl)).trans rfl) rfl rfl) (.cons (.d _) (.cons (.d _) (.cons (.row rfl (by exact (hA_.row 8033 (by kernel_rfl)).trans rfl) rfl rfl) (.cons (.row rfl (by exact (hA_.row 9033 (by kernel_rfl)).trans rfl) rfl rfl) (.cons (.row rfl (by exact (hA_.row 10033 (by kernel_rfl)).trans rfl) rfl rfl) .nil))))))))))) .nil))) (ok_spec_PutHead aL aB aH (by first | omega | assumption | (simp only [List.length_append] at *; omega)) (by assumption) (by assumption)) (.inr rfl) (At.freshRows hA_ rfl) (by simp) rfl)) ?_
    refine .cons (fun E hA_ => by have g34 := hA_.get 34 (by decide); exact OpStep.plain rfl (Step.move (p := (.tup [(false, [.row 1034 []]), (false, [.d (.bool (headOk aL aH))])])) (t := 27) rfl rfl (by exact lt_ok rfl) (show Env.ev E (.tmp 34) = _ from g34.trans rfl))) ?_
    refine .cons (fun E hA_ => by have g27 := hA_.get 27 (by decide); exact OpStep.plain rfl (Step.extract (p := (.one (.row 1034 []))) (t := 35) rfl rfl (by exact lt_ok rfl) (show Env.ev E (.tmp 27) = _ from g27.trans rfl) rfl)) ?_
    refine .cons (fun E hA_ => by have g27 := hA_.get 27 (by decide); exact OpStep.plain rfl (Step.extract (p := (.one (.d (.bool (headOk aL aH))))) (t := 36) rfl rfl (by exact lt_ok rfl) (show Env.ev E (.tmp 27) = _ from g27.trans rfl) rfl)) ?_
    refine .cons (fun E hA_ => by have g35 := hA_.get 35 (by decide); exact OpStep.plain rfl (Step.assign (p := (.one (.row 1034 []))) (t := 8) rfl rfl (by exact lt_ok rfl) (show Env.ev E (.tmp 35) = _ from g35.trans rfl))) ?_
    refine .cons (fun E hA_ => by have g36 := hA_.get 36 (by decide); exact OpStep.plain rfl (Step.assign (p := (.one (.d (.bool (headOk aL aH))))) (t := 9) rfl rfl (by exact lt_ok rfl) (show Env.ev E (.tmp 36) = _ from g36.trans rfl))) ?_
    exact .nil _ _
   refine TL.nil ?_
   refine T.weaken (E' := { tm := [(1, (.one (.d (.ints .u8 aB)))), (3, (.one (.ptr 3 0))), (5, (.one (.ptr 5 0))), (6, (.one (.d (.bool false)))), (8, (.one (.row 1034 []))), (9, (.one (.d (.bool (headOk aL aH)))))], rows := [(1034, (5, (.ints .u8 (putHead aL aB aH))))], boxes := [(3, (37, [.d (.int .i64 aL.f0), .d (.int .i64 aL.f1), .d (.int .i64 aL.f2), .d (.int .i64 aL.f3), .d (.int .i64 aL.f4)])), (5, (98, [.d (.int .i64 aH.f0), .d (.int .i64 aH.f1), .d (.int .i64 aH.f2), .d (.ints .u8 aH.f3), .d (.ints .u8 aH.f4), .d (.int .i64 aH.f5.f0), .d (.int .i64 aH.f5.f1), .d (.ints .u8 aH.f5.f2), .d (.ints .u8 aH.f5.f3), .d (.bss aH.f5.f4)]))] }) (Env.le_mk ⟨by kernel_rfl, by kernel_rfl, by kernel_rfl, by kernel_rfl, by kernel_rfl, by kernel_rfl, trivial⟩ ⟨by kernel_rfl, trivial⟩ ⟨by kernel_rfl, by kernel_rfl, trivial⟩) ?_
   refine T.seq ?_
   refine T.region ?_
   refine TL.cons rfl (Step.move (p := (.one (.d (.ints .u8 aB)))) rfl rfl (lt_ok rfl) rfl) ?_
   refine TL.cons rfl (Step.call (f := 49) (xs := [.tmp 37]) (ps := [(.one (.d (.ints .u8 aB)))]) false (g := .func 49) rfl rfl (lt_ok rfl) rfl (by kernel_rfl) rfl (.cons (.one (.d _)) .nil) (ok_laws_toByteS aB (by first | omega | assumption | exact mem_getD h0_.2 (by omega))) (.inr rfl) rfl (by simp) rfl) ?_
   refine TL.cons rfl (Step.assign (p := (.one (.row 1038 []))) rfl rfl (lt_ok rfl) rfl) ?_
   refine TL.nil ?_
   refine T.seq ?_
   refine T.region ?_
   refine TL.cons rfl (Step.load_box_agg (n := 10) (qs := [.d (.int .i64 aH.f0), .d (.int .i64 aH.f1), .d (.int .i64 aH.f2), .d (.ints .u8 aH.f3), .d (.ints .u8 aH.f4), .d (.int .i64 aH.f5.f0), .d (.int .i64 aH.f5.f1), .d (.ints .u8 aH.f5.f2), .d (.ints .u8 aH.f5.f3), .d (.bss aH.f5.f4)]) rfl rfl (lt_ok rfl) (by kernel_rfl) rfl rfl rfl rfl) ?_
   refine TL.cons rfl (Step.call (f := 63) (xs := [.tmp 39]) (ps := [(.agg [.d (.int .i64 aH.f0), .d (.int .i64 aH.f1), .d (.int .i64 aH.f2), .d (.ints .u8 aH.f3), .d (.ints .u8 aH.f4), .d (.int .i64 aH.f5.f0), .d (.int .i64 aH.f5.f1), .d (.ints .u8 aH.f5.f2), .d (.ints .u8 aH.f5.f3), .d (.bss aH.f5.f4)])]) false (g := .func 63) rfl rfl (lt_ok rfl) rfl (by kernel_rfl) rfl (.cons (.agg (.cons (.d _) (.cons (.d _) (.cons (.d _) (.cons (.d _) (.cons (.d _) (.cons (.d _) (.cons (.d _) (.cons (.d _) (.cons (.d _) (.cons (.d _) .nil))))))))))) .nil) (ok_laws_toHead aH (by first | assumption | exact ⟨‹_›, ‹_›⟩ | (refine mem_getD (p := SHead.sm) h0_.2 (by omega)) | exact mem_getD h0_.2 (by omega))) (.inr rfl) rfl (by simp) rfl) ?_
   refine TL.cons rfl (Step.alloc (cs := [.int .i64 0, .int .i64 0, .int .i64 0, .slice none 0 0, .slice none 0 0, .int .i64 0, .int .i64 0, .slice none 0 0, .slice none 0 0, .slice none 0 0]) (ps := [.d (.int .i64 0), .d (.int .i64 0), .d (.int .i64 0), .nil, .nil, .d (.int .i64 0), .d (.int .i64 0), .nil, .nil, .nil]) rfl rfl (lt_ok rfl) (by kernel_rfl) rfl rfl rfl rfl) ?_
   refine TL.cons rfl (Step.store_box (n := 10) (p := (.agg [.d (.int .i64 aH.f0), .d (.int .i64 aH.f1), .d (.int .i64 aH.f2), .row 4040 [], .row 5040 [], .d (.int .i64 aH.f5.f0), .d (.int .i64 aH.f5.f1), .row 8040 [], .row 9040 [], .row 10040 []])) (qs := [.d (.int .i64 aH.f0), .d (.int .i64 aH.f1), .d (.int .i64 aH.f2), .row 4040 [], .row 5040 [], .d (.int .i64 aH.f5.f0), .d (.int .i64 aH.f5.f1), .row 8040 [], .row 9040 [], .row 10040 []]) (ps' := [.d (.int .i64 aH.f0), .d (.int .i64 aH.f1), .d (.int .i64 aH.f2), .row 4040 [], .row 5040 [], .d (.int .i64 aH.f5.f0), .d (.int .i64 aH.f5.f1), .row 8040 [], .row 9040 [], .row 10040 []]) rfl rfl (by kernel_rfl) rfl rfl rfl rfl rfl rfl (le_ok rfl) rfl) ?_
   refine TL.nil ?_
   refine T.seq ?_
   have nn5 := @putHead_len aL aB aH (by assumption)
   refine T.draw [⟨42, (.agg [.d (.int .i64 aL.f0), .d (.int .i64 aL.f1), .d (.int .i64 aL.f2), .d (.int .i64 aL.f3), .d (.int .i64 aL.f4)]), []⟩, ⟨43, (.agg [.d (.int .i64 aL.f0), .d (.int .i64 aL.f1), .d (.int .i64 aL.f2), .d (.int .i64 aL.f3), .d (.int .i64 aL.f4)]), []⟩, ⟨44, (.one (.row 1038 [])), []⟩, ⟨45, (.agg [.d (.int .i64 aH.f0), .d (.int .i64 aH.f1), .d (.int .i64 aH.f2), .row 4040 [], .row 5040 [], .d (.int .i64 aH.f5.f0), .d (.int .i64 aH.f5.f1), .row 8040 [], .row 9040 [], .row 10040 []]), []⟩, ⟨46, (.tup [(false, [.row 1046 []]), (false, [.d (.bool (headOk aL aH))])]), [(1046, (5, (.ints .u8 (putHead aL aB aH))))]⟩, ⟨41, (.tup [(false, [.row 1046 []]), (false, [.d (.bool (headOk aL aH))])]), []⟩, ⟨47, (.one (.row 1046 [])), []⟩, ⟨48, (.one (.d (.bool (headOk aL aH)))), []⟩, ⟨12, (.one (.row 1046 [])), []⟩, ⟨13, (.one (.d (.bool (headOk aL aH)))), []⟩] (by kernel_rfl) (by kernel_rfl) ?_ ?_
   ·
    refine .cons (fun E hA_ => by have g3 := hA_.get 3 (by decide); exact OpStep.plain rfl (Step.load_box_agg (n := 5) (qs := [.d (.int .i64 aL.f0), .d (.int .i64 aL.f1), .d (.int .i64 aL.f2), .d (.int .i64 aL.f3), .d (.int .i64 aL.f4)]) (t := 42) rfl rfl (by exact lt_ok rfl) (by kernel_rfl) (show Env.ev E (.tmp 3) = _ from g3.trans rfl) (by exact hA_.box rfl) rfl rfl)) ?_
    refine .cons (fun E hA_ => by have g42 := hA_.get 42 (by decide); exact OpStep.plain rfl (Step.call (f := 26) (xs := [.tmp 42]) (ps := [(.agg [.d (.int .i64 aL.f0), .d (.int .i64 aL.f1), .d (.int .i64 aL.f2), .d (.int .i64 aL.f3), .d (.int .i64 aL.f4)])]) false (g := .func 26) (t := 43) rfl rfl (by exact lt_ok rfl) rfl (by kernel_rfl) (evs_cons (show Env.ev E (.tmp 42) = _ from g42.trans rfl) (rfl)) (.cons (.agg (.cons (.d _) (.cons (.d _) (.cons (.d _) (.cons (.d _) (.cons (.d _) .nil)))))) .nil) (ok_laws_toLimits aL) (.inr rfl) (At.freshRows hA_ rfl) (by simp) rfl)) ?_
    refine .cons (fun E hA_ => by have g10 := hA_.get 10 (by decide); exact OpStep.plain rfl (Step.move (p := (.one (.row 1038 []))) (t := 44) rfl rfl (by exact lt_ok rfl) (show Env.ev E (.tmp 10) = _ from g10.trans rfl))) ?_
    refine .cons (fun E hA_ => by have g11 := hA_.get 11 (by decide); exact OpStep.plain rfl (Step.load_box_agg (n := 10) (qs := [.d (.int .i64 aH.f0), .d (.int .i64 aH.f1), .d (.int .i64 aH.f2), .row 4040 [], .row 5040 [], .d (.int .i64 aH.f5.f0), .d (.int .i64 aH.f5.f1), .row 8040 [], .row 9040 [], .row 10040 []]) (t := 45) rfl rfl (by exact lt_ok rfl) (by kernel_rfl) (show Env.ev E (.tmp 11) = _ from g11.trans rfl) (by exact hA_.box rfl) rfl rfl)) ?_
    refine .cons (fun E hA_ => by have g43 := hA_.get 43 (by decide); have g44 := hA_.get 44 (by decide); have g45 := hA_.get 45 (by decide); exact OpStep.plain rfl (Step.call (f := 64) (xs := [.tmp 43, .tmp 44, .tmp 45]) (ps := [(.agg [.d (.int .i64 aL.f0), .d (.int .i64 aL.f1), .d (.int .i64 aL.f2), .d (.int .i64 aL.f3), .d (.int .i64 aL.f4)]), (.one (.row 1038 [])), (.agg [.d (.int .i64 aH.f0), .d (.int .i64 aH.f1), .d (.int .i64 aH.f2), .row 4040 [], .row 5040 [], .d (.int .i64 aH.f5.f0), .d (.int .i64 aH.f5.f1), .row 8040 [], .row 9040 [], .row 10040 []])]) false (g := .func 64) (t := 46) rfl rfl (by exact lt_ok rfl) rfl (by kernel_rfl) (evs_cons (show Env.ev E (.tmp 43) = _ from g43.trans rfl) (evs_cons (show Env.ev E (.tmp 44) = _ from g44.trans rfl) (evs_cons (show Env.ev E (.tmp 45) = _ from g45.trans rfl) (rfl)))) (.cons (.agg (.cons (.d _) (.cons (.d _) (.cons (.d _) (.cons (.d _) (.cons (.d _) .nil)))))) (.cons (.one (.row rfl (by exact (hA_.row 1038 (by kernel_rfl)).trans rfl) rfl rfl)) (.cons (.agg (.cons (.d _) (.cons (.d _) (.cons (.d _) (.cons (.row rfl (by exact (hA_.row 4040 (by kernel_rfl)).trans rfl) rfl rfl) (.cons (.row rfl (by exact (hA_.row 5040 (by kernel_rfl)).trans rfl) rfl rfl) (.cons (.d _) (.cons (.d _) (.cons (.row rfl (by exact (hA_.row 8040 (by kernel_rfl)).trans rfl) rfl rfl) (.cons (.row rfl (by exact (hA_.row 9040 (by kernel_rfl)).trans rfl) rfl rfl) (.cons (.row rfl (by exact (hA_.row 10040 (by kernel_rfl)).trans rfl) rfl rfl) .nil))))))))))) .nil))) (ok_impl_PutHead aL aB aH (by first | omega | assumption | (simp only [List.length_append] at *; omega)) (by assumption) (by assumption)) (.inr rfl) (At.freshRows hA_ rfl) (by simp) rfl)) ?_
    refine .cons (fun E hA_ => by have g46 := hA_.get 46 (by decide); exact OpStep.plain rfl (Step.move (p := (.tup [(false, [.row 1046 []]), (false, [.d (.bool (headOk aL aH))])])) (t := 41) rfl rfl (by exact lt_ok rfl) (show Env.ev E (.tmp 46) = _ from g46.trans rfl))) ?_
    refine .cons (fun E hA_ => by have g41 := hA_.get 41 (by decide); exact OpStep.plain rfl (Step.extract (p := (.one (.row 1046 []))) (t := 47) rfl rfl (by exact lt_ok rfl) (show Env.ev E (.tmp 41) = _ from g41.trans rfl) rfl)) ?_
    refine .cons (fun E hA_ => by have g41 := hA_.get 41 (by decide); exact OpStep.plain rfl (Step.extract (p := (.one (.d (.bool (headOk aL aH))))) (t := 48) rfl rfl (by exact lt_ok rfl) (show Env.ev E (.tmp 41) = _ from g41.trans rfl) rfl)) ?_
    refine .cons (fun E hA_ => by have g47 := hA_.get 47 (by decide); exact OpStep.plain rfl (Step.assign (p := (.one (.row 1046 []))) (t := 12) rfl rfl (by exact lt_ok rfl) (show Env.ev E (.tmp 47) = _ from g47.trans rfl))) ?_
    refine .cons (fun E hA_ => by have g48 := hA_.get 48 (by decide); exact OpStep.plain rfl (Step.assign (p := (.one (.d (.bool (headOk aL aH))))) (t := 13) rfl rfl (by exact lt_ok rfl) (show Env.ev E (.tmp 48) = _ from g48.trans rfl))) ?_
    exact .nil _ _
   refine TL.nil ?_
   refine T.seq ?_
   refine T.seq ?_
   refine T.region ?_
   refine TL.cons rfl (Step.move (p := (.one (.row 1046 []))) rfl rfl (lt_ok rfl) rfl) ?_
   refine TL.cons rfl (Step.move (p := (.one (.row 1034 []))) rfl rfl (lt_ok rfl) rfl) ?_
   refine TL.cons rfl (Step.call (f := 29) (xs := [.tmp 49, .tmp 50]) (ps := [(.one (.row 1046 [])), (.one (.row 1034 []))]) false (g := .func 29) rfl rfl (lt_ok rfl) rfl (by kernel_rfl) rfl (.cons (.one (.row rfl rfl rfl rfl)) (.cons (.one (.row rfl rfl rfl rfl)) .nil)) (ok_laws_eqByteS (putHead aL aB aH) (putHead aL aB aH)) (.inr rfl) rfl (by simp) rfl) ?_
   refine TL.known 51 (c := true) (by simp) rfl ?_
   refine TL.cons rfl (Step.not (b := true) rfl rfl (lt_ok rfl) rfl) ?_
   refine TL.cons rfl (Step.move (p := (.one (.d (.bool false)))) rfl rfl (lt_ok rfl) rfl) ?_
   refine TL.gyes 53 rfl rfl (lt_ok rfl) rfl (Step.move (p := (.one (.d (.bool (headOk aL aH))))) rfl rfl (lt_ok rfl) rfl) ?_
   refine TL.gyes 53 rfl rfl (lt_ok rfl) rfl (Step.move (p := (.one (.d (.bool (headOk aL aH))))) rfl rfl (lt_ok rfl) rfl) ?_
   refine TL.gyes 53 rfl rfl (lt_ok rfl) rfl (Step.bneq (b := (headOk aL aH)) (c := (headOk aL aH)) rfl rfl (lt_ok rfl) (by kernel_rfl) rfl rfl) ?_
   refine TL.known 56 (c := false) (by simp) rfl ?_
   refine TL.cons rfl (Step.pick (b := false) (p := (.one (.d (.bool false)))) rfl rfl (lt_ok rfl) rfl rfl) ?_
   refine TL.nil ?_
   refine T.cond (b := false) rfl (fun h6_ => absurd h6_ (by simp)) (fun h6_ => ?_)
   refine T.skip ?_
   refine T.seq ?_
   refine T.seq ?_
   refine T.region ?_
   refine TL.cons rfl (Step.move (p := (.one (.row 1038 []))) rfl rfl (lt_ok rfl) rfl) ?_
   refine TL.cons rfl (Step.move (p := (.one (.d (.ints .u8 aB)))) rfl rfl (lt_ok rfl) rfl) ?_
   refine TL.cons rfl (Step.call (f := 49) (xs := [.tmp 59]) (ps := [(.one (.d (.ints .u8 aB)))]) false (g := .func 49) rfl rfl (lt_ok rfl) rfl (by kernel_rfl) rfl (.cons (.one (.d _)) .nil) (ok_laws_toByteS aB (by first | omega | assumption | exact mem_getD h0_.2 (by omega))) (.inr rfl) rfl (by simp) rfl) ?_
   refine TL.cons rfl (Step.call (f := 29) (xs := [.tmp 58, .tmp 60]) (ps := [(.one (.row 1038 [])), (.one (.row 1060 []))]) false (g := .func 29) rfl rfl (lt_ok rfl) rfl (by kernel_rfl) rfl (.cons (.one (.row rfl rfl rfl rfl)) (.cons (.one (.row rfl rfl rfl rfl)) .nil)) (ok_laws_eqByteS aB aB) (.inr rfl) rfl (by simp) rfl) ?_
   refine TL.known 61 (c := true) (by simp) rfl ?_
   refine TL.cons rfl (Step.not (b := true) rfl rfl (lt_ok rfl) rfl) ?_
   refine TL.nil ?_
   refine T.weaken (E' := { tm := [(1, (.one (.d (.ints .u8 aB)))), (3, (.one (.ptr 3 0))), (5, (.one (.ptr 5 0))), (6, (.one (.d (.bool false)))), (8, (.one (.row 1034 []))), (9, (.one (.d (.bool (headOk aL aH))))), (10, (.one (.row 1038 []))), (11, (.one (.ptr 11 0))), (12, (.one (.row 1046 []))), (13, (.one (.d (.bool (headOk aL aH))))), (62, (.one (.d (.bool false))))], rows := [(1034, (5, (.ints .u8 (putHead aL aB aH)))), (1038, (5, (.ints .u8 aB))), (4040, (5, (.ints .u8 aH.f3))), (5040, (5, (.ints .u8 aH.f4))), (8040, (5, (.ints .u8 aH.f5.f2))), (9040, (5, (.ints .u8 aH.f5.f3))), (10040, (22, (.bss aH.f5.f4))), (1046, (5, (.ints .u8 (putHead aL aB aH))))], boxes := [(3, (37, [.d (.int .i64 aL.f0), .d (.int .i64 aL.f1), .d (.int .i64 aL.f2), .d (.int .i64 aL.f3), .d (.int .i64 aL.f4)])), (11, (66, [.d (.int .i64 aH.f0), .d (.int .i64 aH.f1), .d (.int .i64 aH.f2), .row 4040 [], .row 5040 [], .d (.int .i64 aH.f5.f0), .d (.int .i64 aH.f5.f1), .row 8040 [], .row 9040 [], .row 10040 []])), (5, (98, [.d (.int .i64 aH.f0), .d (.int .i64 aH.f1), .d (.int .i64 aH.f2), .d (.ints .u8 aH.f3), .d (.ints .u8 aH.f4), .d (.int .i64 aH.f5.f0), .d (.int .i64 aH.f5.f1), .d (.ints .u8 aH.f5.f2), .d (.ints .u8 aH.f5.f3), .d (.bss aH.f5.f4)]))] }) (Env.le_mk ⟨by kernel_rfl, by kernel_rfl, by kernel_rfl, by kernel_rfl, by kernel_rfl, by kernel_rfl, by kernel_rfl, by kernel_rfl, by kernel_rfl, by kernel_rfl, by kernel_rfl, trivial⟩ ⟨by kernel_rfl, by kernel_rfl, by kernel_rfl, by kernel_rfl, by kernel_rfl, by kernel_rfl, by kernel_rfl, by kernel_rfl, trivial⟩ ⟨by kernel_rfl, by kernel_rfl, by kernel_rfl, trivial⟩) ?_
   refine T.cond (b := false) rfl (fun h7_ => absurd h7_ (by simp)) (fun h7_ => ?_)
   refine T.skip ?_
   refine T.seq ?_
   refine T.seq ?_
   refine T.draw [⟨63, (.agg [.d (.int .i64 aH.f0), .d (.int .i64 aH.f1), .d (.int .i64 aH.f2), .row 4040 [], .row 5040 [], .d (.int .i64 aH.f5.f0), .d (.int .i64 aH.f5.f1), .row 8040 [], .row 9040 [], .row 10040 []]), []⟩, ⟨64, (.agg [.d (.int .i64 aH.f0), .d (.int .i64 aH.f1), .d (.int .i64 aH.f2), .d (.ints .u8 aH.f3), .d (.ints .u8 aH.f4), .d (.int .i64 aH.f5.f0), .d (.int .i64 aH.f5.f1), .d (.ints .u8 aH.f5.f2), .d (.ints .u8 aH.f5.f3), .d (.bss aH.f5.f4)]), []⟩, ⟨65, (.agg [.d (.int .i64 aH.f0), .d (.int .i64 aH.f1), .d (.int .i64 aH.f2), .row 4065 [], .row 5065 [], .d (.int .i64 aH.f5.f0), .d (.int .i64 aH.f5.f1), .row 8065 [], .row 9065 [], .row 10065 []]), [(10065, (22, (.bss aH.f5.f4))), (9065, (5, (.ints .u8 aH.f5.f3))), (8065, (5, (.ints .u8 aH.f5.f2))), (5065, (5, (.ints .u8 aH.f4))), (4065, (5, (.ints .u8 aH.f3)))]⟩, ⟨66, (.one (.d (.bool true))), []⟩, ⟨67, (.one (.d (.bool false))), []⟩] (by kernel_rfl) (by kernel_rfl) ?_ ?_
   ·
    refine .cons (fun E hA_ => by have g11 := hA_.get 11 (by decide); exact OpStep.plain rfl (Step.load_box_agg (n := 10) (qs := [.d (.int .i64 aH.f0), .d (.int .i64 aH.f1), .d (.int .i64 aH.f2), .row 4040 [], .row 5040 [], .d (.int .i64 aH.f5.f0), .d (.int .i64 aH.f5.f1), .row 8040 [], .row 9040 [], .row 10040 []]) (t := 63) rfl rfl (by exact lt_ok rfl) (by kernel_rfl) (show Env.ev E (.tmp 11) = _ from g11.trans rfl) (by exact hA_.box rfl) rfl rfl)) ?_
    refine .cons (fun E hA_ => by have g5 := hA_.get 5 (by decide); exact OpStep.plain rfl (Step.load_box_agg (n := 10) (qs := [.d (.int .i64 aH.f0), .d (.int .i64 aH.f1), .d (.int .i64 aH.f2), .d (.ints .u8 aH.f3), .d (.ints .u8 aH.f4), .d (.int .i64 aH.f5.f0), .d (.int .i64 aH.f5.f1), .d (.ints .u8 aH.f5.f2), .d (.ints .u8 aH.f5.f3), .d (.bss aH.f5.f4)]) (t := 64) rfl rfl (by exact lt_ok rfl) (by kernel_rfl) (show Env.ev E (.tmp 5) = _ from g5.trans rfl) (by exact hA_.box rfl) rfl rfl)) ?_
    refine .cons (fun E hA_ => by have g64 := hA_.get 64 (by decide); exact OpStep.plain rfl (Step.call (f := 63) (xs := [.tmp 64]) (ps := [(.agg [.d (.int .i64 aH.f0), .d (.int .i64 aH.f1), .d (.int .i64 aH.f2), .d (.ints .u8 aH.f3), .d (.ints .u8 aH.f4), .d (.int .i64 aH.f5.f0), .d (.int .i64 aH.f5.f1), .d (.ints .u8 aH.f5.f2), .d (.ints .u8 aH.f5.f3), .d (.bss aH.f5.f4)])]) false (g := .func 63) (t := 65) rfl rfl (by exact lt_ok rfl) rfl (by kernel_rfl) (evs_cons (show Env.ev E (.tmp 64) = _ from g64.trans rfl) (rfl)) (.cons (.agg (.cons (.d _) (.cons (.d _) (.cons (.d _) (.cons (.d _) (.cons (.d _) (.cons (.d _) (.cons (.d _) (.cons (.d _) (.cons (.d _) (.cons (.d _) .nil))))))))))) .nil) (ok_laws_toHead aH (by first | assumption | exact ⟨‹_›, ‹_›⟩ | (refine mem_getD (p := SHead.sm) h0_.2 (by omega)) | exact mem_getD h0_.2 (by omega))) (.inr rfl) (At.freshRows hA_ rfl) (by simp) rfl)) ?_
    refine .cons (fun E hA_ => by have g63 := hA_.get 63 (by decide); have g65 := hA_.get 65 (by decide); exact OpStep.plain rfl (Step.to (E1 := E.set 66 (.one (.d (.bool (decide (aH = aH)))))) (congrArg (fun b_ => E.set 66 (.one (.d (.bool b_)))) (by simp : (decide (aH = aH)) = true)) (Step.call (f := 65) (xs := [.tmp 63, .tmp 65]) (ps := [(.agg [.d (.int .i64 aH.f0), .d (.int .i64 aH.f1), .d (.int .i64 aH.f2), .row 4040 [], .row 5040 [], .d (.int .i64 aH.f5.f0), .d (.int .i64 aH.f5.f1), .row 8040 [], .row 9040 [], .row 10040 []]), (.agg [.d (.int .i64 aH.f0), .d (.int .i64 aH.f1), .d (.int .i64 aH.f2), .row 4065 [], .row 5065 [], .d (.int .i64 aH.f5.f0), .d (.int .i64 aH.f5.f1), .row 8065 [], .row 9065 [], .row 10065 []])]) false (g := .func 65) (t := 66) rfl rfl (by exact lt_ok rfl) rfl (by kernel_rfl) (evs_cons (show Env.ev E (.tmp 63) = _ from g63.trans rfl) (evs_cons (show Env.ev E (.tmp 65) = _ from g65.trans rfl) (rfl))) (.cons (.agg (.cons (.d _) (.cons (.d _) (.cons (.d _) (.cons (.row rfl (by exact (hA_.row 4040 (by kernel_rfl)).trans rfl) rfl rfl) (.cons (.row rfl (by exact (hA_.row 5040 (by kernel_rfl)).trans rfl) rfl rfl) (.cons (.d _) (.cons (.d _) (.cons (.row rfl (by exact (hA_.row 8040 (by kernel_rfl)).trans rfl) rfl rfl) (.cons (.row rfl (by exact (hA_.row 9040 (by kernel_rfl)).trans rfl) rfl rfl) (.cons (.row rfl (by exact (hA_.row 10040 (by kernel_rfl)).trans rfl) rfl rfl) .nil))))))))))) (.cons (.agg (.cons (.d _) (.cons (.d _) (.cons (.d _) (.cons (.row rfl (by exact (hA_.row 4065 (by kernel_rfl)).trans rfl) rfl rfl) (.cons (.row rfl (by exact (hA_.row 5065 (by kernel_rfl)).trans rfl) rfl rfl) (.cons (.d _) (.cons (.d _) (.cons (.row rfl (by exact (hA_.row 8065 (by kernel_rfl)).trans rfl) rfl rfl) (.cons (.row rfl (by exact (hA_.row 9065 (by kernel_rfl)).trans rfl) rfl rfl) (.cons (.row rfl (by exact (hA_.row 10065 (by kernel_rfl)).trans rfl) rfl rfl) .nil))))))))))) .nil)) (ok_laws_eqHead aH aH) (.inr rfl) (At.freshRows hA_ rfl) (by simp) rfl))) ?_
    refine .cons (fun E hA_ => by have g66 := hA_.get 66 (by decide); exact OpStep.plain rfl (Step.not (b := true) (t := 67) rfl rfl (by exact lt_ok rfl) (show Env.ev E (.tmp 66) = _ from g66.trans rfl))) ?_
    exact .nil _ _
   refine TL.nil ?_
   refine T.cond (b := false) rfl (fun h8_ => absurd h8_ (by simp)) (fun h8_ => ?_)
   refine T.skip ?_
   refine T.seq ?_
   refine T.region ?_
   refine TL.cons rfl (Step.assign (p := (.one (.d (.int .i64 1)))) rfl rfl (lt_ok rfl) rfl) ?_
   refine TL.nil ?_
   refine T.seq ?_
   refine T.region ?_
   refine TL.cons rfl (Step.move (p := (.one (.row 1038 []))) rfl rfl (lt_ok rfl) rfl) ?_
   refine TL.cons rfl (Step.move (p := (.one (.d (.int .i64 1)))) rfl rfl (lt_ok rfl) rfl) ?_
   refine TL.cons rfl (Step.callM (f := 32) (xs := [.tmp 68, .tmp 69]) (ps := [(.one (.row 1038 [])), (.one (.d (.int .i64 1)))]) (args := [.one (.mk (.ints .u8 aB) (.ints .u8 (mkB aB 1))), .one (.rd (.int .i64 1))]) (js := [(1038, (.ints .u8 (mkB aB 1)))]) (x := (.int .i64 (1 + (aB.length : Int)))) (g := .func 32) rfl rfl (lt_ok rfl) rfl (by kernel_rfl) rfl rfl (.row (T := 5) (d := (.ints .u8 aB)) (e' := (.ints .u8 (mkB aB 1))) (d' := (.ints .u8 (mkB aB 1))) rfl rfl rfl rfl rfl (by simp [D.size, mkL_length]) rfl rfl (.d .nil)) (ok_laws_markByteS aB 1 (by omega) (by first | omega | (have := (by assumption); omega))) rfl) ?_
   refine TL.cons rfl (Step.assign (p := (.one (.d (.int .i64 (1 + (aB.length : Int)))))) rfl rfl (lt_ok rfl) rfl) ?_
   refine TL.nil ?_
   refine T.seq ?_
   refine T.region ?_
   refine TL.cons rfl (Step.load_box_agg (n := 10) (qs := [.d (.int .i64 aH.f0), .d (.int .i64 aH.f1), .d (.int .i64 aH.f2), .row 4040 [], .row 5040 [], .d (.int .i64 aH.f5.f0), .d (.int .i64 aH.f5.f1), .row 8040 [], .row 9040 [], .row 10040 []]) rfl rfl (lt_ok rfl) (by kernel_rfl) rfl rfl rfl rfl) ?_
   refine TL.cons rfl (Step.move (p := (.one (.d (.int .i64 (1 + (aB.length : Int)))))) rfl rfl (lt_ok rfl) rfl) ?_
   have nn9 := SHead.cm_nn aH
   refine TL.cons rfl (Step.callM (f := 66) (xs := [.tmp 71, .tmp 72]) (ps := [(.agg [.d (.int .i64 aH.f0), .d (.int .i64 aH.f1), .d (.int .i64 aH.f2), .row 4040 [], .row 5040 [], .d (.int .i64 aH.f5.f0), .d (.int .i64 aH.f5.f1), .row 8040 [], .row 9040 [], .row 10040 []]), (.one (.d (.int .i64 (1 + (aB.length : Int)))))]) (args := [.agg [.rd (.int .i64 aH.f0), .rd (.int .i64 aH.f1), .rd (.int .i64 aH.f2), .mk (.ints .u8 aH.f3) (.ints .u8 (mkB aH.f3 (1 + (aB.length : Int)))), .mk (.ints .u8 aH.f4) (.ints .u8 (mkB aH.f4 ((1 + (aB.length : Int)) + (aH.f3.length : Int)))), .rd (.int .i64 aH.f5.f0), .rd (.int .i64 aH.f5.f1), .mk (.ints .u8 aH.f5.f2) (.ints .u8 (mkB aH.f5.f2 (((1 + (aB.length : Int)) + (aH.f3.length : Int)) + (aH.f4.length : Int)))), .mk (.ints .u8 aH.f5.f3) (.ints .u8 (mkB aH.f5.f3 ((((1 + (aB.length : Int)) + (aH.f3.length : Int)) + (aH.f4.length : Int)) + (aH.f5.f2.length : Int)))), .mk (.bss aH.f5.f4) (.bss (mkBs aH.f5.f4 (((((1 + (aB.length : Int)) + (aH.f3.length : Int)) + (aH.f4.length : Int)) + (aH.f5.f2.length : Int)) + (aH.f5.f3.length : Int))))], .one (.rd (.int .i64 (1 + (aB.length : Int))))]) (js := [(4040, (.ints .u8 (mkB aH.f3 (1 + (aB.length : Int))))), (5040, (.ints .u8 (mkB aH.f4 ((1 + (aB.length : Int)) + (aH.f3.length : Int))))), (8040, (.ints .u8 (mkB aH.f5.f2 (((1 + (aB.length : Int)) + (aH.f3.length : Int)) + (aH.f4.length : Int))))), (9040, (.ints .u8 (mkB aH.f5.f3 ((((1 + (aB.length : Int)) + (aH.f3.length : Int)) + (aH.f4.length : Int)) + (aH.f5.f2.length : Int))))), (10040, (.bss (mkBs aH.f5.f4 (((((1 + (aB.length : Int)) + (aH.f3.length : Int)) + (aH.f4.length : Int)) + (aH.f5.f2.length : Int)) + (aH.f5.f3.length : Int)))))]) (x := (.int .i64 ((1 + (aB.length : Int)) + aH.cm))) (g := .func 66) rfl rfl (lt_ok rfl) rfl (by kernel_rfl) rfl rfl (.d (.d (.d (.row (T := 5) (d := (.ints .u8 aH.f3)) (e' := (.ints .u8 (mkB aH.f3 (1 + (aB.length : Int))))) (d' := (.ints .u8 (mkB aH.f3 (1 + (aB.length : Int))))) rfl rfl rfl rfl rfl (by simp [D.size, mkL_length]) rfl rfl (.row (T := 5) (d := (.ints .u8 aH.f4)) (e' := (.ints .u8 (mkB aH.f4 ((1 + (aB.length : Int)) + (aH.f3.length : Int))))) (d' := (.ints .u8 (mkB aH.f4 ((1 + (aB.length : Int)) + (aH.f3.length : Int))))) rfl rfl rfl rfl rfl (by simp [D.size, mkL_length]) rfl rfl (.d (.d (.row (T := 5) (d := (.ints .u8 aH.f5.f2)) (e' := (.ints .u8 (mkB aH.f5.f2 (((1 + (aB.length : Int)) + (aH.f3.length : Int)) + (aH.f4.length : Int))))) (d' := (.ints .u8 (mkB aH.f5.f2 (((1 + (aB.length : Int)) + (aH.f3.length : Int)) + (aH.f4.length : Int))))) rfl rfl rfl rfl rfl (by simp [D.size, mkL_length]) rfl rfl (.row (T := 5) (d := (.ints .u8 aH.f5.f3)) (e' := (.ints .u8 (mkB aH.f5.f3 ((((1 + (aB.length : Int)) + (aH.f3.length : Int)) + (aH.f4.length : Int)) + (aH.f5.f2.length : Int))))) (d' := (.ints .u8 (mkB aH.f5.f3 ((((1 + (aB.length : Int)) + (aH.f3.length : Int)) + (aH.f4.length : Int)) + (aH.f5.f2.length : Int))))) rfl rfl rfl rfl rfl (by simp [D.size, mkL_length]) rfl rfl (.row (T := 22) (d := (.bss aH.f5.f4)) (e' := (.bss (mkBs aH.f5.f4 (((((1 + (aB.length : Int)) + (aH.f3.length : Int)) + (aH.f4.length : Int)) + (aH.f5.f2.length : Int)) + (aH.f5.f3.length : Int))))) (d' := (.bss (mkBs aH.f5.f4 (((((1 + (aB.length : Int)) + (aH.f3.length : Int)) + (aH.f4.length : Int)) + (aH.f5.f2.length : Int)) + (aH.f5.f3.length : Int))))) rfl rfl rfl rfl rfl (by simp [D.size, mkL_length]) rfl rfl (.d .nil))))))))))) (ok_laws_markHead aH (1 + (aB.length : Int)) (by omega) (by first | omega | (have := SHead.cm_le (x := aH) (by assumption); omega))) rfl) ?_
   refine TL.cons rfl (Step.assign (p := (.one (.d (.int .i64 ((1 + (aB.length : Int)) + aH.cm))))) rfl rfl (lt_ok rfl) rfl) ?_
   refine TL.nil ?_
   refine T.seq ?_
   refine T.seq ?_
   refine T.region ?_
   refine TL.cons rfl (Step.move (p := (.one (.d (.int .i64 ((1 + (aB.length : Int)) + aH.cm))))) rfl rfl (lt_ok rfl) rfl) ?_
   refine TL.cons rfl (Step.bin rfl rfl (lt_ok rfl) rfl rfl (Bin.lss (k := .i64) (a := ((1 + (aB.length : Int)) + aH.cm)) (b := 0))) ?_
   refine TL.known 75 (c := false) (decide_eq_false (by omega)) rfl ?_
   refine TL.cons rfl (Step.move (p := (.one (.d (.bool false)))) rfl rfl (lt_ok rfl) rfl) ?_
   refine TL.gyes 76 rfl rfl (lt_ok rfl) rfl (Step.move (p := (.one (.row 1046 []))) rfl rfl (lt_ok rfl) rfl) ?_
   refine TL.gyes 76 rfl rfl (lt_ok rfl) rfl (Step.move (p := (.one (.row 1034 []))) rfl rfl (lt_ok rfl) rfl) ?_
   refine TL.gyes 76 rfl rfl (lt_ok rfl) rfl (Step.call (f := 29) (xs := [.tmp 77, .tmp 78]) (ps := [(.one (.row 1046 [])), (.one (.row 1034 []))]) false (g := .func 29) rfl rfl (lt_ok rfl) rfl (by kernel_rfl) rfl (.cons (.one (.row rfl rfl rfl rfl)) (.cons (.one (.row rfl rfl rfl rfl)) .nil)) (ok_laws_eqByteS (putHead aL aB aH) (putHead aL aB aH)) (.inr rfl) rfl (by simp) rfl) ?_
   refine TL.known 79 (c := true) (by simp) rfl ?_
   refine TL.gyes 76 rfl rfl (lt_ok rfl) rfl (Step.not (b := true) rfl rfl (lt_ok rfl) rfl) ?_
   refine TL.cons rfl (Step.pick (b := false) (p := (.one (.d (.bool false)))) rfl rfl (lt_ok rfl) rfl rfl) ?_
   refine TL.cons rfl (Step.move (p := (.one (.d (.bool false)))) rfl rfl (lt_ok rfl) rfl) ?_
   refine TL.gyes 82 rfl rfl (lt_ok rfl) rfl (Step.move (p := (.one (.d (.bool (headOk aL aH))))) rfl rfl (lt_ok rfl) rfl) ?_
   refine TL.gyes 82 rfl rfl (lt_ok rfl) rfl (Step.move (p := (.one (.d (.bool (headOk aL aH))))) rfl rfl (lt_ok rfl) rfl) ?_
   refine TL.gyes 82 rfl rfl (lt_ok rfl) rfl (Step.bneq (b := (headOk aL aH)) (c := (headOk aL aH)) rfl rfl (lt_ok rfl) (by kernel_rfl) rfl rfl) ?_
   refine TL.known 85 (c := false) (by simp) rfl ?_
   refine TL.cons rfl (Step.pick (b := false) (p := (.one (.d (.bool false)))) rfl rfl (lt_ok rfl) rfl rfl) ?_
   refine TL.nil ?_
   refine T.weaken (E' := { tm := [(1, (.one (.d (.ints .u8 aB)))), (3, (.one (.ptr 3 0))), (5, (.one (.ptr 5 0))), (6, (.one (.d (.bool false)))), (8, (.one (.row 1034 []))), (9, (.one (.d (.bool (headOk aL aH))))), (12, (.one (.row 1046 []))), (86, (.one (.d (.bool false))))], rows := [(1034, (5, (.ints .u8 (putHead aL aB aH)))), (1046, (5, (.ints .u8 (putHead aL aB aH))))], boxes := [(3, (37, [.d (.int .i64 aL.f0), .d (.int .i64 aL.f1), .d (.int .i64 aL.f2), .d (.int .i64 aL.f3), .d (.int .i64 aL.f4)])), (5, (98, [.d (.int .i64 aH.f0), .d (.int .i64 aH.f1), .d (.int .i64 aH.f2), .d (.ints .u8 aH.f3), .d (.ints .u8 aH.f4), .d (.int .i64 aH.f5.f0), .d (.int .i64 aH.f5.f1), .d (.ints .u8 aH.f5.f2), .d (.ints .u8 aH.f5.f3), .d (.bss aH.f5.f4)]))] }) (Env.le_mk ⟨by kernel_rfl, by kernel_rfl, by kernel_rfl, by kernel_rfl, by kernel_rfl, by kernel_rfl, by kernel_rfl, by kernel_rfl, trivial⟩ ⟨by kernel_rfl, by kernel_rfl, trivial⟩ ⟨by kernel_rfl, by kernel_rfl, trivial⟩) ?_
   refine T.cond (b := false) rfl (fun h10_ => absurd h10_ (by simp)) (fun h10_ => ?_)
   refine T.skip ?_
   refine T.seq ?_
   refine T.region ?_
   refine TL.cons rfl (Step.assign (p := (.one (.d (.int .i64 1)))) rfl rfl (lt_ok rfl) rfl) ?_
   refine TL.nil ?_
   refine T.seq ?_
   refine T.region ?_
   refine TL.cons rfl (Step.move (p := (.one (.row 1046 []))) rfl rfl (lt_ok rfl) rfl) ?_
   refine TL.cons rfl (Step.move (p := (.one (.d (.int .i64 1)))) rfl rfl (lt_ok rfl) rfl) ?_
   refine TL.cons rfl (Step.callM (f := 32) (xs := [.tmp 87, .tmp 88]) (ps := [(.one (.row 1046 [])), (.one (.d (.int .i64 1)))]) (args := [.one (.mk (.ints .u8 (putHead aL aB aH)) (.ints .u8 (mkB (putHead aL aB aH) 1))), .one (.rd (.int .i64 1))]) (js := [(1046, (.ints .u8 (mkB (putHead aL aB aH) 1)))]) (x := (.int .i64 (1 + ((putHead aL aB aH).length : Int)))) (g := .func 32) rfl rfl (lt_ok rfl) rfl (by kernel_rfl) rfl rfl (.row (T := 5) (d := (.ints .u8 (putHead aL aB aH))) (e' := (.ints .u8 (mkB (putHead aL aB aH) 1))) (d' := (.ints .u8 (mkB (putHead aL aB aH) 1))) rfl rfl rfl rfl rfl (by simp [D.size, mkL_length]) rfl rfl (.d .nil)) (ok_laws_markByteS (putHead aL aB aH) 1 (by omega) (by first | omega | (have := (by assumption); omega))) rfl) ?_
   refine TL.cons rfl (Step.assign (p := (.one (.d (.int .i64 (1 + ((putHead aL aB aH).length : Int)))))) rfl rfl (lt_ok rfl) rfl) ?_
   refine TL.nil ?_
   refine T.seq ?_
   refine T.region ?_
   refine TL.cons rfl (Step.assign (p := (.one (.d (.int .i64 1)))) rfl rfl (lt_ok rfl) rfl) ?_
   refine TL.nil ?_
   refine T.seq ?_
   refine T.region ?_
   refine TL.cons rfl (Step.move (p := (.one (.row 1046 []))) rfl rfl (lt_ok rfl) rfl) ?_
   refine TL.cons rfl (Step.move (p := (.one (.d (.int .i64 1)))) rfl rfl (lt_ok rfl) rfl) ?_
   refine TL.cons rfl (Step.call (f := 33) (xs := [.tmp 90, .tmp 91]) (ps := [(.one (.row 1046 [])), (.one (.d (.int .i64 1)))]) false (g := .func 33) rfl rfl (lt_ok rfl) rfl (by kernel_rfl) rfl (.cons (.one (.row rfl rfl rfl rfl)) (.cons (.one (.d _)) .nil)) (ok_laws_heldByteS (putHead aL aB aH) (mkB (putHead aL aB aH) 1) 1 (by omega) (by first | omega | (have := (by assumption); omega)) (by first | rfl | assumption | (repeat' (first | rfl | apply And.intro)))) (.inr rfl) rfl (by simp) rfl) ?_
   refine TL.cons rfl (Step.assign (p := (.one (.d (.int .i64 (1 + ((putHead aL aB aH).length : Int)))))) rfl rfl (lt_ok rfl) rfl) ?_
   refine TL.nil ?_
   refine T.seq ?_
   refine T.seq ?_
   refine T.region ?_
   refine TL.cons rfl (Step.move (p := (.one (.d (.int .i64 (1 + ((putHead aL aB aH).length : Int)))))) rfl rfl (lt_ok rfl) rfl) ?_
   refine TL.cons rfl (Step.bin rfl rfl (lt_ok rfl) rfl rfl (Bin.lss (k := .i64) (a := (1 + ((putHead aL aB aH).length : Int))) (b := 0))) ?_
   refine TL.known 94 (c := false) (decide_eq_false (by omega)) rfl ?_
   refine TL.nil ?_
   refine T.cond (b := false) rfl (fun h11_ => absurd h11_ (by simp)) (fun h11_ => ?_)
   refine T.skip ?_
   refine T.seq ?_
   refine T.seq ?_
   refine T.region ?_
   refine TL.cons rfl (Step.move (p := (.one (.d (.int .i64 (1 + ((putHead aL aB aH).length : Int)))))) rfl rfl (lt_ok rfl) rfl) ?_
   refine TL.cons rfl (Step.move (p := (.one (.d (.int .i64 (1 + ((putHead aL aB aH).length : Int)))))) rfl rfl (lt_ok rfl) rfl) ?_
   refine TL.cons rfl (Step.bin rfl rfl (lt_ok rfl) rfl rfl (Bin.neq (k := .i64) (a := (1 + ((putHead aL aB aH).length : Int))) (b := (1 + ((putHead aL aB aH).length : Int))))) ?_
   refine TL.known 97 (c := false) (by simp) rfl ?_
   refine TL.nil ?_
   refine T.cond (b := false) rfl (fun h12_ => absurd h12_ (by simp)) (fun h12_ => ?_)
   refine T.skip ?_
   refine T.seq ?_
   have nn13 := @putHead_len aL aB aH (by assumption)
   refine T.draw [⟨99, (.agg [.d (.int .i64 aL.f0), .d (.int .i64 aL.f1), .d (.int .i64 aL.f2), .d (.int .i64 aL.f3), .d (.int .i64 aL.f4)]), []⟩, ⟨100, (.agg [.d (.int .i64 aL.f0), .d (.int .i64 aL.f1), .d (.int .i64 aL.f2), .d (.int .i64 aL.f3), .d (.int .i64 aL.f4)]), []⟩, ⟨101, (.one (.d (.ints .u8 aB))), []⟩, ⟨102, (.one (.row 1102 [])), [(1102, (5, (.ints .u8 aB)))]⟩, ⟨103, (.agg [.d (.int .i64 aH.f0), .d (.int .i64 aH.f1), .d (.int .i64 aH.f2), .d (.ints .u8 aH.f3), .d (.ints .u8 aH.f4), .d (.int .i64 aH.f5.f0), .d (.int .i64 aH.f5.f1), .d (.ints .u8 aH.f5.f2), .d (.ints .u8 aH.f5.f3), .d (.bss aH.f5.f4)]), []⟩, ⟨104, (.agg [.d (.int .i64 aH.f0), .d (.int .i64 aH.f1), .d (.int .i64 aH.f2), .row 4104 [], .row 5104 [], .d (.int .i64 aH.f5.f0), .d (.int .i64 aH.f5.f1), .row 8104 [], .row 9104 [], .row 10104 []]), [(10104, (22, (.bss aH.f5.f4))), (9104, (5, (.ints .u8 aH.f5.f3))), (8104, (5, (.ints .u8 aH.f5.f2))), (5104, (5, (.ints .u8 aH.f4))), (4104, (5, (.ints .u8 aH.f3)))]⟩, ⟨105, (.tup [(false, [.row 1105 []]), (false, [.d (.bool (headOk aL aH))])]), [(1105, (5, (.ints .u8 (putHead aL aB aH))))]⟩, ⟨98, (.tup [(false, [.row 1105 []]), (false, [.d (.bool (headOk aL aH))])]), []⟩, ⟨106, (.one (.row 1105 [])), []⟩, ⟨107, (.one (.d (.bool (headOk aL aH)))), []⟩, ⟨17, (.one (.row 1105 [])), []⟩, ⟨18, (.one (.d (.bool (headOk aL aH)))), []⟩] (by kernel_rfl) (by kernel_rfl) ?_ ?_
   ·
    refine .cons (fun E hA_ => by have g3 := hA_.get 3 (by decide); exact OpStep.plain rfl (Step.load_box_agg (n := 5) (qs := [.d (.int .i64 aL.f0), .d (.int .i64 aL.f1), .d (.int .i64 aL.f2), .d (.int .i64 aL.f3), .d (.int .i64 aL.f4)]) (t := 99) rfl rfl (by exact lt_ok rfl) (by kernel_rfl) (show Env.ev E (.tmp 3) = _ from g3.trans rfl) (by exact hA_.box rfl) rfl rfl)) ?_
    refine .cons (fun E hA_ => by have g99 := hA_.get 99 (by decide); exact OpStep.plain rfl (Step.call (f := 26) (xs := [.tmp 99]) (ps := [(.agg [.d (.int .i64 aL.f0), .d (.int .i64 aL.f1), .d (.int .i64 aL.f2), .d (.int .i64 aL.f3), .d (.int .i64 aL.f4)])]) false (g := .func 26) (t := 100) rfl rfl (by exact lt_ok rfl) rfl (by kernel_rfl) (evs_cons (show Env.ev E (.tmp 99) = _ from g99.trans rfl) (rfl)) (.cons (.agg (.cons (.d _) (.cons (.d _) (.cons (.d _) (.cons (.d _) (.cons (.d _) .nil)))))) .nil) (ok_laws_toLimits aL) (.inr rfl) (At.freshRows hA_ rfl) (by simp) rfl)) ?_
    refine .cons (fun E hA_ => by have g1 := hA_.get 1 (by decide); exact OpStep.plain rfl (Step.move (p := (.one (.d (.ints .u8 aB)))) (t := 101) rfl rfl (by exact lt_ok rfl) (show Env.ev E (.tmp 1) = _ from g1.trans rfl))) ?_
    refine .cons (fun E hA_ => by have g101 := hA_.get 101 (by decide); exact OpStep.plain rfl (Step.call (f := 49) (xs := [.tmp 101]) (ps := [(.one (.d (.ints .u8 aB)))]) false (g := .func 49) (t := 102) rfl rfl (by exact lt_ok rfl) rfl (by kernel_rfl) (evs_cons (show Env.ev E (.tmp 101) = _ from g101.trans rfl) (rfl)) (.cons (.one (.d _)) .nil) (ok_laws_toByteS aB (by first | omega | assumption | exact mem_getD h0_.2 (by omega))) (.inr rfl) (At.freshRows hA_ rfl) (by simp) rfl)) ?_
    refine .cons (fun E hA_ => by have g5 := hA_.get 5 (by decide); exact OpStep.plain rfl (Step.load_box_agg (n := 10) (qs := [.d (.int .i64 aH.f0), .d (.int .i64 aH.f1), .d (.int .i64 aH.f2), .d (.ints .u8 aH.f3), .d (.ints .u8 aH.f4), .d (.int .i64 aH.f5.f0), .d (.int .i64 aH.f5.f1), .d (.ints .u8 aH.f5.f2), .d (.ints .u8 aH.f5.f3), .d (.bss aH.f5.f4)]) (t := 103) rfl rfl (by exact lt_ok rfl) (by kernel_rfl) (show Env.ev E (.tmp 5) = _ from g5.trans rfl) (by exact hA_.box rfl) rfl rfl)) ?_
    refine .cons (fun E hA_ => by have g103 := hA_.get 103 (by decide); exact OpStep.plain rfl (Step.call (f := 63) (xs := [.tmp 103]) (ps := [(.agg [.d (.int .i64 aH.f0), .d (.int .i64 aH.f1), .d (.int .i64 aH.f2), .d (.ints .u8 aH.f3), .d (.ints .u8 aH.f4), .d (.int .i64 aH.f5.f0), .d (.int .i64 aH.f5.f1), .d (.ints .u8 aH.f5.f2), .d (.ints .u8 aH.f5.f3), .d (.bss aH.f5.f4)])]) false (g := .func 63) (t := 104) rfl rfl (by exact lt_ok rfl) rfl (by kernel_rfl) (evs_cons (show Env.ev E (.tmp 103) = _ from g103.trans rfl) (rfl)) (.cons (.agg (.cons (.d _) (.cons (.d _) (.cons (.d _) (.cons (.d _) (.cons (.d _) (.cons (.d _) (.cons (.d _) (.cons (.d _) (.cons (.d _) (.cons (.d _) .nil))))))))))) .nil) (ok_laws_toHead aH (by first | assumption | exact ⟨‹_›, ‹_›⟩ | (refine mem_getD (p := SHead.sm) h0_.2 (by omega)) | exact mem_getD h0_.2 (by omega))) (.inr rfl) (At.freshRows hA_ rfl) (by simp) rfl)) ?_
    refine .cons (fun E hA_ => by have g100 := hA_.get 100 (by decide); have g102 := hA_.get 102 (by decide); have g104 := hA_.get 104 (by decide); exact OpStep.plain rfl (Step.call (f := 64) (xs := [.tmp 100, .tmp 102, .tmp 104]) (ps := [(.agg [.d (.int .i64 aL.f0), .d (.int .i64 aL.f1), .d (.int .i64 aL.f2), .d (.int .i64 aL.f3), .d (.int .i64 aL.f4)]), (.one (.row 1102 [])), (.agg [.d (.int .i64 aH.f0), .d (.int .i64 aH.f1), .d (.int .i64 aH.f2), .row 4104 [], .row 5104 [], .d (.int .i64 aH.f5.f0), .d (.int .i64 aH.f5.f1), .row 8104 [], .row 9104 [], .row 10104 []])]) false (g := .func 64) (t := 105) rfl rfl (by exact lt_ok rfl) rfl (by kernel_rfl) (evs_cons (show Env.ev E (.tmp 100) = _ from g100.trans rfl) (evs_cons (show Env.ev E (.tmp 102) = _ from g102.trans rfl) (evs_cons (show Env.ev E (.tmp 104) = _ from g104.trans rfl) (rfl)))) (.cons (.agg (.cons (.d _) (.cons (.d _) (.cons (.d _) (.cons (.d _) (.cons (.d _) .nil)))))) (.cons (.one (.row rfl (by exact (hA_.row 1102 (by kernel_rfl)).trans rfl) rfl rfl)) (.cons (.agg (.cons (.d _) (.cons (.d _) (.cons (.d _) (.cons (.row rfl (by exact (hA_.row 4104 (by kernel_rfl)).trans rfl) rfl rfl) (.cons (.row rfl (by exact (hA_.row 5104 (by kernel_rfl)).trans rfl) rfl rfl) (.cons (.d _) (.cons (.d _) (.cons (.row rfl (by exact (hA_.row 8104 (by kernel_rfl)).trans rfl) rfl rfl) (.cons (.row rfl (by exact (hA_.row 9104 (by kernel_rfl)).trans rfl) rfl rfl) (.cons (.row rfl (by exact (hA_.row 10104 (by kernel_rfl)).trans rfl) rfl rfl) .nil))))))))))) .nil))) (ok_impl_PutHead aL aB aH (by first | omega | assumption | (simp only [List.length_append] at *; omega)) (by assumption) (by assumption)) (.inr rfl) (At.freshRows hA_ rfl) (by simp) rfl)) ?_
    refine .cons (fun E hA_ => by have g105 := hA_.get 105 (by decide); exact OpStep.plain rfl (Step.move (p := (.tup [(false, [.row 1105 []]), (false, [.d (.bool (headOk aL aH))])])) (t := 98) rfl rfl (by exact lt_ok rfl) (show Env.ev E (.tmp 105) = _ from g105.trans rfl))) ?_
    refine .cons (fun E hA_ => by have g98 := hA_.get 98 (by decide); exact OpStep.plain rfl (Step.extract (p := (.one (.row 1105 []))) (t := 106) rfl rfl (by exact lt_ok rfl) (show Env.ev E (.tmp 98) = _ from g98.trans rfl) rfl)) ?_
    refine .cons (fun E hA_ => by have g98 := hA_.get 98 (by decide); exact OpStep.plain rfl (Step.extract (p := (.one (.d (.bool (headOk aL aH))))) (t := 107) rfl rfl (by exact lt_ok rfl) (show Env.ev E (.tmp 98) = _ from g98.trans rfl) rfl)) ?_
    refine .cons (fun E hA_ => by have g106 := hA_.get 106 (by decide); exact OpStep.plain rfl (Step.assign (p := (.one (.row 1105 []))) (t := 17) rfl rfl (by exact lt_ok rfl) (show Env.ev E (.tmp 106) = _ from g106.trans rfl))) ?_
    refine .cons (fun E hA_ => by have g107 := hA_.get 107 (by decide); exact OpStep.plain rfl (Step.assign (p := (.one (.d (.bool (headOk aL aH))))) (t := 18) rfl rfl (by exact lt_ok rfl) (show Env.ev E (.tmp 107) = _ from g107.trans rfl))) ?_
    exact .nil _ _
   refine TL.nil ?_
   refine T.seq ?_
   refine T.seq ?_
   refine T.region ?_
   refine TL.cons rfl (Step.move (p := (.one (.row 1105 []))) rfl rfl (lt_ok rfl) rfl) ?_
   refine TL.cons rfl (Step.move (p := (.one (.row 1034 []))) rfl rfl (lt_ok rfl) rfl) ?_
   refine TL.cons rfl (Step.call (f := 29) (xs := [.tmp 108, .tmp 109]) (ps := [(.one (.row 1105 [])), (.one (.row 1034 []))]) false (g := .func 29) rfl rfl (lt_ok rfl) rfl (by kernel_rfl) rfl (.cons (.one (.row rfl rfl rfl rfl)) (.cons (.one (.row rfl rfl rfl rfl)) .nil)) (ok_laws_eqByteS (putHead aL aB aH) (putHead aL aB aH)) (.inr rfl) rfl (by simp) rfl) ?_
   refine TL.known 110 (c := true) (by simp) rfl ?_
   refine TL.cons rfl (Step.not (b := true) rfl rfl (lt_ok rfl) rfl) ?_
   refine TL.cons rfl (Step.move (p := (.one (.d (.bool false)))) rfl rfl (lt_ok rfl) rfl) ?_
   refine TL.gyes 112 rfl rfl (lt_ok rfl) rfl (Step.move (p := (.one (.d (.bool (headOk aL aH))))) rfl rfl (lt_ok rfl) rfl) ?_
   refine TL.gyes 112 rfl rfl (lt_ok rfl) rfl (Step.move (p := (.one (.d (.bool (headOk aL aH))))) rfl rfl (lt_ok rfl) rfl) ?_
   refine TL.gyes 112 rfl rfl (lt_ok rfl) rfl (Step.bneq (b := (headOk aL aH)) (c := (headOk aL aH)) rfl rfl (lt_ok rfl) (by kernel_rfl) rfl rfl) ?_
   refine TL.known 115 (c := false) (by simp) rfl ?_
   refine TL.cons rfl (Step.pick (b := false) (p := (.one (.d (.bool false)))) rfl rfl (lt_ok rfl) rfl rfl) ?_
   refine TL.nil ?_
   refine T.weaken (E' := { tm := [(6, (.one (.d (.bool false)))), (12, (.one (.row 1046 []))), (15, (.one (.d (.int .i64 (1 + ((putHead aL aB aH).length : Int)))))), (16, (.one (.d (.int .i64 (1 + ((putHead aL aB aH).length : Int)))))), (116, (.one (.d (.bool false))))], rows := [(1046, (5, (.ints .u8 (mkB (putHead aL aB aH) 1))))], boxes := [] }) (Env.le_mk ⟨by kernel_rfl, by kernel_rfl, by kernel_rfl, by kernel_rfl, by kernel_rfl, trivial⟩ ⟨by kernel_rfl, trivial⟩ trivial) ?_
   refine T.cond (b := false) rfl (fun h14_ => absurd h14_ (by simp)) (fun h14_ => ?_)
   refine T.skip ?_
   refine T.seq ?_
   refine T.region ?_
   refine TL.cons rfl (Step.assign (p := (.one (.d (.int .i64 1)))) rfl rfl (lt_ok rfl) rfl) ?_
   refine TL.nil ?_
   refine T.seq ?_
   refine T.region ?_
   refine TL.cons rfl (Step.move (p := (.one (.row 1046 []))) rfl rfl (lt_ok rfl) rfl) ?_
   refine TL.cons rfl (Step.move (p := (.one (.d (.int .i64 1)))) rfl rfl (lt_ok rfl) rfl) ?_
   refine TL.cons rfl (Step.call (f := 33) (xs := [.tmp 117, .tmp 118]) (ps := [(.one (.row 1046 [])), (.one (.d (.int .i64 1)))]) false (g := .func 33) rfl rfl (lt_ok rfl) rfl (by kernel_rfl) rfl (.cons (.one (.row rfl rfl rfl rfl)) (.cons (.one (.d _)) .nil)) (ok_laws_heldByteS (putHead aL aB aH) (mkB (putHead aL aB aH) 1) 1 (by omega) (by first | omega | (have := (by assumption); omega)) (by first | rfl | assumption | (repeat' (first | rfl | apply And.intro)))) (.inr rfl) rfl (by simp) rfl) ?_
   refine TL.cons rfl (Step.assign (p := (.one (.d (.int .i64 (1 + ((putHead aL aB aH).length : Int)))))) rfl rfl (lt_ok rfl) rfl) ?_
   refine TL.nil ?_
   refine T.seq ?_
   refine T.seq ?_
   refine T.region ?_
   refine TL.cons rfl (Step.move (p := (.one (.d (.int .i64 (1 + ((putHead aL aB aH).length : Int)))))) rfl rfl (lt_ok rfl) rfl) ?_
   refine TL.cons rfl (Step.bin rfl rfl (lt_ok rfl) rfl rfl (Bin.lss (k := .i64) (a := (1 + ((putHead aL aB aH).length : Int))) (b := 0))) ?_
   refine TL.known 121 (c := false) (decide_eq_false (by omega)) rfl ?_
   refine TL.nil ?_
   refine T.cond (b := false) rfl (fun h15_ => absurd h15_ (by simp)) (fun h15_ => ?_)
   refine T.skip ?_
   refine T.seq ?_
   refine T.seq ?_
   refine T.region ?_
   refine TL.cons rfl (Step.move (p := (.one (.d (.int .i64 (1 + ((putHead aL aB aH).length : Int)))))) rfl rfl (lt_ok rfl) rfl) ?_
   refine TL.cons rfl (Step.move (p := (.one (.d (.int .i64 (1 + ((putHead aL aB aH).length : Int)))))) rfl rfl (lt_ok rfl) rfl) ?_
   refine TL.cons rfl (Step.bin rfl rfl (lt_ok rfl) rfl rfl (Bin.neq (k := .i64) (a := (1 + ((putHead aL aB aH).length : Int))) (b := (1 + ((putHead aL aB aH).length : Int))))) ?_
   refine TL.known 124 (c := false) (by simp) rfl ?_
   refine TL.nil ?_
   refine T.cond (b := false) rfl (fun h16_ => absurd h16_ (by simp)) (fun h16_ => ?_)
   refine T.skip ?_
   refine T.seq ?_
   refine T.region ?_
   refine TL.cons rfl (Step.assign (p := (.one (.d (.bool true)))) rfl rfl (lt_ok rfl) rfl) ?_
   refine TL.nil ?_
   refine T.ret ?_
   exact ⟨[(false, [.d (.bool true)])], (.cons rfl .nil), rfl, [], (RetC.rd' (by rfl) .nil)⟩
end Go.Proofs.Ythaagegnobegjaa.Rf
