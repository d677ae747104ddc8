/- The functions that FnExactGetBlock calls, each held to what it answers. Printed by a program of this session; Lean checks it. -/
import Derived.Test.YtlcmflenbddliaaProg
import Derived.Test.YtlcmflenbddliaaRFnExactGetBlockx2
namespace Go.Proofs.Ytlcmflenbddliaa.Rf
open Go.RowKit
set_option linter.unusedVariables false
set_option linter.unnecessarySimpa false
set_option linter.unusedSimpArgs false
set_option maxRecDepth 100000
set_option maxHeartbeats 4000000
theorem ok_impl_readBlock (b : List Int) (s : SRS) (l : SLimits) (h0_ : U8s b) (h1_ : b.length ≤ 1048576) (h2_ : limOk l = true) : BX Try.prog 99 [.rd (.agg [(.int .i64 l.f0), (.int .i64 l.f1), (.int .i64 l.f2), (.int .i64 l.f3), (.int .i64 l.f4)]), .bx] 144 [.rd (.ints .u8 b), .rd (.int .i64 s.f0), .rd (.int .i64 s.f1)] [.rd (.ints .u8 b), .rd (.int .i64 (rdBlock l b s).1.f0), .rd (.int .i64 (rdBlock l b s).1.f1)] [(true, [.rd (.int .i64 (rdBlock l b s).2.f0.f0), .rd (.int .i64 (rdBlock l b s).2.f0.f1), .rd (.int .i64 (rdBlock l b s).2.f0.f2), .own 5 (.ints .u8 (rdBlock l b s).2.f0.f3), .own 5 (.ints .u8 (rdBlock l b s).2.f0.f4), .rd (.int .i64 (rdBlock l b s).2.f0.f5.f0), .rd (.int .i64 (rdBlock l b s).2.f0.f5.f1), .own 5 (.ints .u8 (rdBlock l b s).2.f0.f5.f2), .own 5 (.ints .u8 (rdBlock l b s).2.f0.f5.f3), .own 24 (.bss (rdBlock l b s).2.f0.f5.f4), .own 24 (.bss (rdBlock l b s).2.f1)])] := by
 refine BX.intro Try.func99 rfl 55 rfl (le_ok rfl) (le_ok rfl) fun w Z IX pin hp => ?_
 have hl2_ : 0 ≤ l.f2 ∧ l.f2 ≤ 8 := by have h_ := h2_; simp [limOk] at h_; omega
 have hb1_ := @rdNum_bd b h0_ (rdHead l b s).1
 have hb2_ : (rdB2 l b s).2 = (rdNum b (rdHead l b s).1).2 := rfl
 have hb3_ : (rdBelow b (rdHead l b s).1 (l.f2 + 1) 3).2 = (rdB2 l b s).2 := rfl
 have hho_ := @rdHead_ok l b s h0_
 have hr4_ := hho_.2.2.2.2.1
 refine T.seq ?_
 refine T.region ?_
 refine TL.c (Step.bx [cI l.f0, cI l.f1, cI l.f2, cI l.f3, cI l.f4]) ?_
 refine TL.c (Step.al [cI 0, cI 0, cI 0, .nil, .nil, cI 0, cI 0, .nil, .nil, .nil, .nil]) ?_
 refine TL.nil ?_
 refine T.seq ?_
 refine T.region ?_
 refine TL.c (Step.lba 5 [cI l.f0, cI l.f1, cI l.f2, cI l.f3, cI l.f4]) ?_
 refine TL.mv (.one (.ptr 800 0)) ?_
 have nn1 := @rdHead_sm l b s (by first | assumption | omega)
 have nn2 := @rdHead_ok l b s (by assumption)
 refine TL.c (Step.callX2 (b := 800) (xs := [.tmp 8, .tmp 9]) (ps := [(.agg [cI l.f0, cI l.f1, cI l.f2, cI l.f3, cI l.f4]), (.one (.ptr 800 0))]) (bps := [cS b, cI s.f0, cI s.f1]) (ss := []) (g := .func 92) (ok_impl_readHead b s l (by assumption) (by first | omega | assumption | (simp only [List.length_append] at *; omega))) rfl rfl (lt_ok rfl) rfl (by kernel_rfl) rfl (.cons (.rd (.agg (.cons (.d _) (.cons (.d _) (.cons (.d _) (.cons (.d _) (.cons (.d _) .nil))))))) (.cons (.bx) .nil)) rfl (.rd (.rd (.rd .nil))) rfl rfl (fun x hx => by have := hp x hx; omega) rfl) ?_
 refine TL.c (Step.build (zs := [.int .i64 0, .int .i64 0, .int .i64 0, .slice none 0 0, .slice none 0 0, .int .i64 0, .int .i64 0, .slice none 0 0, .slice none 0 0, .slice none 0 0, .slice none 0 0]) (places := [(0, 10), (10, 1)]) (pss := [(0, [cI (rdHead l b s).2.f0, cI (rdHead l b s).2.f1, cI (rdHead l b s).2.f2, .row 7010 [], .row 8010 [], cI (rdHead l b s).2.f5.f0, cI (rdHead l b s).2.f5.f1, .row 11010 [], .row 12010 [], .row 13010 []])]) (ps' := [cI (rdHead l b s).2.f0, cI (rdHead l b s).2.f1, cI (rdHead l b s).2.f2, .row 7010 [], .row 8010 [], cI (rdHead l b s).2.f5.f0, cI (rdHead l b s).2.f5.f1, .row 11010 [], .row 12010 [], .row 13010 [], .nil]) rfl rfl (lt_ok rfl) (by kernel_rfl) (.cons ⟨rfl, rfl⟩ .nil) rfl rfl rfl) ?_
 refine TL.c (Step.al [cI 0, cI 0, cI 0, .nil, .nil, cI 0, cI 0, .nil, .nil, .nil, .nil]) ?_
 refine TL.c (Step.sb 11 [cI (rdHead l b s).2.f0, cI (rdHead l b s).2.f1, cI (rdHead l b s).2.f2, .row 7010 [], .row 8010 [], cI (rdHead l b s).2.f5.f0, cI (rdHead l b s).2.f5.f1, .row 11010 [], .row 12010 [], .row 13010 [], .nil]) ?_
 refine TL.nil ?_
 refine T.seq ?_
 refine T.region ?_
 refine TL.mv (.one (.ptr 800 0)) ?_
 refine TL.c (Step.fd 2 1 true) ?_
 refine TL.c (Step.lb (.d (.int .i64 l.f2))) ?_
 refine TL.c (Step.bin (r := .int .i64 (l.f2 + 1)) rfl rfl (lt_ok rfl) rfl rfl (Bin.add (a := l.f2) (b := 1) (by first | exact wrap_ok (by first | omega | (simp; omega)) (by first | omega | (simp; omega)) | rfl))) ?_
 have nn3 := @rdNum_bd b (by assumption) (rdHead l b s).1
 refine TL.c (Step.callX2 (b := 800) (xs := [.tmp 12, .tmp 15, .const (.int .i64 3)]) (ps := [(.one (.ptr 800 0)), (pI (l.f2 + 1)), (pI 3)]) (bps := [cS b, cI (rdHead l b s).1.f0, cI (rdHead l b s).1.f1]) (ss := []) (g := .func 143) (ok_impl_reader__below b (rdHead l b s).1 (l.f2 + 1) 3 (by assumption) (by first | omega | assumption | (simp only [List.length_append] at *; omega))) rfl rfl (lt_ok rfl) rfl (by kernel_rfl) rfl (.cons (.bx) (.cons (.rd (.one (.d _))) (.cons (.rd (.one (.d _))) .nil))) rfl (.rd (.rd (.rd .nil))) rfl rfl (fun x hx => by have := hp x hx; omega) rfl) ?_
 refine TL.as (pI (rdBelow b (rdHead l b s).1 (l.f2 + 1) 3).2) ?_
 refine TL.nil ?_
 refine T.seq ?_
 refine T.seq ?_
 refine T.region ?_
 refine TL.as (pI 0) ?_
 refine TL.nil ?_
 refine T.block ?_
 refine T.nilrow 5 10 100510 24 56 (.bss []) [cI (rdHead l b s).2.f0, cI (rdHead l b s).2.f1, cI (rdHead l b s).2.f2, .row 7010 [], .row 8010 [], cI (rdHead l b s).2.f5.f0, cI (rdHead l b s).2.f5.f1, .row 11010 [], .row 12010 [], .row 13010 [], .nil] rfl rfl rfl (fun x hx => by have := hp x hx; omega) rfl rfl trivial ?_
 refine T.loop (ι := Nat × SRS × (List (List Int))) (fun xx_ => { tm := [(1, (.one (.ptr 800 0))), (2, (.one (.ptr 2 0))), (4, (.one (.ptr 4 0))), (5, (.one (.ptr 5 0))), (6, (pI (rdBelow b (rdHead l b s).1 (l.f2 + 1) 3).2)), (7, (pI ((xx_.1) : Int)))], rows := [(7010, (5, (.ints .u8 (rdHead l b s).2.f3))), (8010, (5, (.ints .u8 (rdHead l b s).2.f4))), (11010, (5, (.ints .u8 (rdHead l b s).2.f5.f2))), (12010, (5, (.ints .u8 (rdHead l b s).2.f5.f3))), (13010, (24, (.bss (rdHead l b s).2.f5.f4))), (100510, (24, (.bss (xx_.2.2))))], boxes := [(800, (144, [cS b, cI (xx_.2.1).f0, cI (xx_.2.1).f1])), (2, (34, [cI l.f0, cI l.f1, cI l.f2, cI l.f3, cI l.f4])), (4, (56, [cI 0, cI 0, cI 0, .nil, .nil, cI 0, cI 0, .nil, .nil, .nil, .nil])), (5, (56, [cI (rdHead l b s).2.f0, cI (rdHead l b s).2.f1, cI (rdHead l b s).2.f2, .row 7010 [], .row 8010 [], cI (rdHead l b s).2.f5.f0, cI (rdHead l b s).2.f5.f1, .row 11010 [], .row 12010 [], .row 13010 [], .row 100510 []]))] }) (fun xx_ => ((xx_.1) : Int) ≤ (rdB2 l b s).2 ∧ ((xx_.2.1).f1 = 0 → (rdB2 l b s).2 ≤ 8) ∧ (xx_.2.2).length = (xx_.1) ∧ (∀ y ∈ (xx_.2.2), U8s y) ∧ (∀ y ∈ (xx_.2.2), y.length ≤ 1048576) ∧ rdTx l b ((rdB2 l b s).2.toNat - (xx_.1)) (xx_.2.1) (xx_.2.2) = rdTx l b (rdB2 l b s).2.toNat (rdB2 l b s).1 []) (fun xx_ => (rdB2 l b s).2.toNat - (xx_.1)) (0, (rdB2 l b s).1, []) ?_ ?_ ?_
 · refine Env.le_mk ⟨rfl, rfl, rfl, rfl, rfl, ?_, trivial⟩ ⟨rfl, rfl, rfl, rfl, rfl, ?_, trivial⟩ ⟨?_, rfl, rfl, rfl, trivial⟩ <;> (first | rfl | (refine congrArg (fun n => PV.one (.d (.int .i64 n))) ?_; first | rfl | omega | (simp; done)))
 · (dsimp only; exact ⟨by omega, fun h_ => rdB2_z ((fun _ => h2_)) h_, rfl, (fun y hy => by cases hy), (fun y hy => by cases hy), rfl⟩)
 intro xx_ hx
 obtain ⟨i, q, ts⟩ := xx_
 try dsimp only at hx ⊢
 obtain ⟨hx1, hx2, hx3, hx5, hx6, hx4⟩ := hx
 refine T.seq ?_
 refine T.seq ?_
 refine T.region ?_
 refine TL.mv (pI (i : Int)) ?_
 refine TL.mv (pI (rdBelow b (rdHead l b s).1 (l.f2 + 1) 3).2) ?_
 refine TL.b _ (Bin.lss (k := .i64) (a := (i : Int)) (b := (rdBelow b (rdHead l b s).1 (l.f2 + 1) 3).2)) ?_
 refine TL.mv (pB (decide ((i : Int) < (rdBelow b (rdHead l b s).1 (l.f2 + 1) 3).2))) ?_
 rcases Bool.eq_false_or_eq_true (decide ((i : Int) < (rdBelow b (rdHead l b s).1 (l.f2 + 1) 3).2)) with hb4 | hb4
 ·
  refine TL.known 20 hb4 rfl ?_
  have hb4' := hb4
  replace hb4' := of_decide_eq_true hb4'
  refine TL.gm 20 (.one (.ptr 800 0)) ?_
  refine TL.gy 20 (Step.nilCheck rfl rfl (lt_ok rfl) rfl) ?_
  refine TL.gy 20 (Step.fd 2 1 true) ?_
  refine TL.gy 20 (Step.lb (.d (.int .i64 q.f1))) ?_
  refine TL.gy 20 (Step.bin rfl rfl (lt_ok rfl) rfl rfl (Bin.eql (k := .i64) (a := q.f1) (b := 0))) ?_
  refine TL.pk true (pB (decide (q.f1 = 0))) ?_
  refine TL.nil ?_
  refine T.ci rfl (fun h5 => ?_) (fun h5 => ?_)
  ·
   refine T.skip ?_
   refine T.seq ?_
   refine T.block ?_
   have nn6 := rdText_len b q l.f1
   refine T.drawX [{ dst := some 29, pv := (.one (.ptr 5 10)) }, { dst := some 30, pv := (.one (.row 100510 [])) }, { dst := some 31, pv := (.one (.ptr 800 0)) }, { dst := some 32, pv := (.one (.ptr 2 1)) }, { dst := some 33, pv := (pI l.f1) }, { dst := some 34, pv := (.one (.row 4034 [])), rows := [(4034, (5, (.ints .u8 (rdText b q l.f1).2)))], box := some (800, (144, [cS b, cI (rdText b q l.f1).1.f0, cI (rdText b q l.f1).1.f1])) }, { dst := some 35, pv := (.one (.row 35 [])), rows := [(35, (24, (.bss [(rdText b q l.f1).2])))], dead := [4034] }, { dst := some 36, pv := (.one (.row 500036 [])), rows := [(500036, (24, (.bss (ts ++ [(rdText b q l.f1).2]))))], dead := [100510, 35] }, { dst := some 37, pv := (.one (.ptr 5 10)) }, { box := some (5, (56, [cI (rdHead l b s).2.f0, cI (rdHead l b s).2.f1, cI (rdHead l b s).2.f2, .row 7010 [], .row 8010 [], cI (rdHead l b s).2.f5.f0, cI (rdHead l b s).2.f5.f1, .row 11010 [], .row 12010 [], .row 13010 [], .row 500036 []])) }] (by kernel_rfl) (by kernel_rfl) ?_ ?_
   ·
    refine .cons (fun E hA_ => by have g5 : E.get 5 = (.one (.ptr 5 0)) := (hA_.get 5 (by kernel_rfl)).trans (by kernel_rfl); exact OpStep.plain rfl (Step.fa (off := 10) (n := 1) (one := true) 0 29 (show Env.ev E (.tmp 5) = _ from g5.trans rfl))) ?_
    refine .cons (fun E hA_ => by have g29 : E.get 29 = (.one (.ptr 5 10)) := (hA_.get 29 (by kernel_rfl)).trans (by kernel_rfl); have b5 : E.box 5 = some (56, [cI (rdHead l b s).2.f0, cI (rdHead l b s).2.f1, cI (rdHead l b s).2.f2, .row 7010 [], .row 8010 [], cI (rdHead l b s).2.f5.f0, cI (rdHead l b s).2.f5.f1, .row 11010 [], .row 12010 [], .row 13010 [], .row 100510 []]) := (hA_.box 5 (by kernel_rfl)).trans (by kernel_rfl); exact OpStep.plain rfl (Step.load_box (c := .row 100510 []) (t := 30) rfl rfl (by exact lt_ok rfl) (by kernel_rfl) (show Env.ev E (.tmp 29) = _ from g29.trans rfl) b5 rfl)) ?_
    refine .cons (fun E hA_ => by have g1 : E.get 1 = (.one (.ptr 800 0)) := (hA_.get 1 (by kernel_rfl)).trans (by kernel_rfl); exact OpStep.plain rfl (Step.move (p := (.one (.ptr 800 0))) (t := 31) rfl rfl (by exact lt_ok rfl) (show Env.ev E (.tmp 1) = _ from g1.trans rfl))) ?_
    refine .cons (fun E hA_ => by have g2 : E.get 2 = (.one (.ptr 2 0)) := (hA_.get 2 (by kernel_rfl)).trans (by kernel_rfl); exact OpStep.plain rfl (Step.fa (off := 1) (n := 1) (one := true) 0 32 (show Env.ev E (.tmp 2) = _ from g2.trans rfl))) ?_
    refine .cons (fun E hA_ => by have g32 : E.get 32 = (.one (.ptr 2 1)) := (hA_.get 32 (by kernel_rfl)).trans (by kernel_rfl); have b2 : E.box 2 = some (34, [cI l.f0, cI l.f1, cI l.f2, cI l.f3, cI l.f4]) := (hA_.box 2 (by kernel_rfl)).trans (by kernel_rfl); exact OpStep.plain rfl (Step.load_box (c := cI l.f1) (t := 33) rfl rfl (by exact lt_ok rfl) (by kernel_rfl) (show Env.ev E (.tmp 32) = _ from g32.trans rfl) b2 rfl)) ?_
    refine .cons (fun E hA_ => by have g31 : E.get 31 = (.one (.ptr 800 0)) := (hA_.get 31 (by kernel_rfl)).trans (by kernel_rfl); have g33 : E.get 33 = (pI l.f1) := (hA_.get 33 (by kernel_rfl)).trans (by kernel_rfl); have b800 : E.box 800 = some (144, [cS b, cI q.f0, cI q.f1]) := (hA_.box 800 (by kernel_rfl)).trans (by kernel_rfl); exact OpStep.plain rfl (Step.callXX2 (b := 800) (xs := [.tmp 31, .tmp 33]) (ps := [(.one (.ptr 800 0)), (pI l.f1)]) (bps := [cS b, cI q.f0, cI q.f1]) (ss := []) (g := .func 146) (t := 34) (ok_impl_reader__text b q l.f1 (by assumption) (by first | omega | assumption | (simp only [List.length_append] at *; omega))) rfl rfl (by exact lt_ok rfl) rfl (by kernel_rfl) (evs_cons (show Env.ev E (.tmp 31) = _ from g31.trans rfl) (evs_cons (show Env.ev E (.tmp 33) = _ from g33.trans rfl) (rfl))) (.cons (.bx) (.cons (.rd (.one (.d _))) .nil)) b800 (.rd (.rd (.rd .nil))) rfl (handX_fresh (fun x_ hx_ => hA_.fresh x_ (by exact hx_))) (fun x hx => by have := hp x hx; omega) rfl (by simp [rowsOf, rid]))) ?_
    refine .cons (fun E hA_ => by have g34 : E.get 34 = (.one (.row 4034 [])) := (hA_.get 34 (by kernel_rfl)).trans (by kernel_rfl); have q4034 : E.row 4034 = some (5, (.ints .u8 (rdText b q l.f1).2)) := (hA_.row 4034 (by kernel_rfl)).trans (by kernel_rfl); exact OpStep.plain rfl (Step.litX (e := 24) (z := 1) (by_ := 24) (xs := [.tmp 34]) (pss := [[.row 4034 []]]) (es := [(.ints .u8 (rdText b q l.f1).2)]) (ss := [4034]) (d := (.bss [(rdText b q l.f1).2])) (t := 35) rfl rfl (by exact lt_ok rfl) (by kernel_rfl) rfl rfl (.cons (by exact (congrArg PV.flat (show Env.ev E (.tmp 34) = _ from g34.trans rfl)).trans rfl) .nil) (by simp) (le_ok rfl) (le_ok rfl) (by simp only [List.all_cons, List.all_nil, List.flatten_cons, List.flatten_nil, List.append_nil, List.cons_append, List.nil_append, Env.fine, q4034]; rfl) (.row q4034 (by simp) .nil) (hA_.fresh _ (List.mem_singleton.2 rfl)) (by simp) (fun x_ hx_ => by have := hp x_ hx_; omega) rfl trivial rfl rfl)) ?_
    refine .cons (fun E hA_ => by have g30 : E.get 30 = (.one (.row 100510 [])) := (hA_.get 30 (by kernel_rfl)).trans (by kernel_rfl); have g35 : E.get 35 = (.one (.row 35 [])) := (hA_.get 35 (by kernel_rfl)).trans (by kernel_rfl); have q35 : E.row 35 = some (24, (.bss [(rdText b q l.f1).2])) := (hA_.row 35 (by kernel_rfl)).trans (by kernel_rfl); have q100510 : E.row 100510 = some (24, (.bss ts)) := (hA_.row 100510 (by kernel_rfl)).trans (by kernel_rfl); exact OpStep.plain rfl (Step.appendX (e := 24) (z := 1) (by_ := 24) (d := (.bss ts)) (dy := (.bss [(rdText b q l.f1).2])) (d' := (.bss (ts ++ [(rdText b q l.f1).2]))) (ss := [35]) 500036 (t := 36) rfl rfl (by exact lt_ok rfl) (by kernel_rfl) (show Env.ev E (.tmp 30) = _ from g30.trans rfl) q100510 rfl (lt_ok rfl) (show Env.ev E (.tmp 35) = _ from g35.trans rfl) (.move q35) (by simp) rfl (by simp only [D.size, List.length_map]; first | omega | (simp only [List.length_append, List.length_cons, List.length_nil]; omega) | (simp; omega) | (simp only [List.length_append] at *; omega)) (by simp only [D.size, List.length_map]; first | omega | (simp only [List.length_append, List.length_cons, List.length_nil]; omega) | (simp; omega) | (simp only [List.length_append] at *; omega)) (fun x_ hx_ => by have := hp x_ hx_; omega) (hA_.fresh _ (List.mem_singleton.2 rfl)) (by simp) (fun x_ hx_ => by have := hp x_ hx_; omega))) ?_
    refine .cons (fun E hA_ => by have g5 : E.get 5 = (.one (.ptr 5 0)) := (hA_.get 5 (by kernel_rfl)).trans (by kernel_rfl); exact OpStep.plain rfl (Step.fa (off := 10) (n := 1) (one := true) 0 37 (show Env.ev E (.tmp 5) = _ from g5.trans rfl))) ?_
    refine .cons (fun E hA_ => by have g36 : E.get 36 = (.one (.row 500036 [])) := (hA_.get 36 (by kernel_rfl)).trans (by kernel_rfl); have g37 : E.get 37 = (.one (.ptr 5 10)) := (hA_.get 37 (by kernel_rfl)).trans (by kernel_rfl); have q500036 : E.row 500036 = some (24, (.bss (ts ++ [(rdText b q l.f1).2]))) := (hA_.row 500036 (by kernel_rfl)).trans (by kernel_rfl); have b5 : E.box 5 = some (56, [cI (rdHead l b s).2.f0, cI (rdHead l b s).2.f1, cI (rdHead l b s).2.f2, .row 7010 [], .row 8010 [], cI (rdHead l b s).2.f5.f0, cI (rdHead l b s).2.f5.f1, .row 11010 [], .row 12010 [], .row 13010 [], .row 100510 []]) := (hA_.box 5 (by kernel_rfl)).trans (by kernel_rfl); exact OpStep.plain rfl (Step.store_box (n := 1) (p := (.one (.row 500036 []))) (qs := [.row 500036 []]) (ps' := [cI (rdHead l b s).2.f0, cI (rdHead l b s).2.f1, cI (rdHead l b s).2.f2, .row 7010 [], .row 8010 [], cI (rdHead l b s).2.f5.f0, cI (rdHead l b s).2.f5.f1, .row 11010 [], .row 12010 [], .row 13010 [], .row 500036 []]) rfl rfl (by kernel_rfl) (show Env.ev E (.tmp 37) = _ from g37.trans rfl) b5 (show Env.ev E (.tmp 36) = _ from g36.trans rfl) rfl rfl (by simp only [List.all_cons, List.all_nil, List.flatten_cons, List.flatten_nil, List.append_nil, List.cons_append, List.nil_append, Env.fine, q500036]; rfl) (le_ok rfl) rfl)) ?_
    exact .nil _ _
   refine TL.wk [(1, (.one (.ptr 800 0))), (2, (.one (.ptr 2 0))), (4, (.one (.ptr 4 0))), (5, (.one (.ptr 5 0))), (6, (pI (rdBelow b (rdHead l b s).1 (l.f2 + 1) 3).2)), (7, (pI (i : Int)))] [(7010, (5, (.ints .u8 (rdHead l b s).2.f3))), (8010, (5, (.ints .u8 (rdHead l b s).2.f4))), (11010, (5, (.ints .u8 (rdHead l b s).2.f5.f2))), (12010, (5, (.ints .u8 (rdHead l b s).2.f5.f3))), (13010, (24, (.bss (rdHead l b s).2.f5.f4))), (500036, (24, (.bss (ts ++ [(rdText b q l.f1).2]))))] [(800, (144, [cS b, cI (rdText b q l.f1).1.f0, cI (rdText b q l.f1).1.f1])), (2, (34, [cI l.f0, cI l.f1, cI l.f2, cI l.f3, cI l.f4])), (4, (56, [cI 0, cI 0, cI 0, .nil, .nil, cI 0, cI 0, .nil, .nil, .nil, .nil])), (5, (56, [cI (rdHead l b s).2.f0, cI (rdHead l b s).2.f1, cI (rdHead l b s).2.f2, .row 7010 [], .row 8010 [], cI (rdHead l b s).2.f5.f0, cI (rdHead l b s).2.f5.f1, .row 11010 [], .row 12010 [], .row 13010 [], .row 500036 []]))] ?_
   refine TL.ren 500036 100510 rfl (fun x hx => by have := hp x hx; omega) ?_
   refine TL.nil ?_
   refine T.region ?_
   refine TL.mv (pI (i : Int)) ?_
   refine TL.c (Step.bin (r := .int .i64 ((i : Int) + 1)) rfl rfl (lt_ok rfl) rfl rfl (Bin.add (a := (i : Int)) (b := 1) (by first | exact wrap_ok (by first | omega | (simp; omega)) (by first | omega | (simp; omega)) | rfl))) ?_
   refine TL.as (pI ((i : Int) + 1)) ?_
   refine TL.nil ?_
   refine ⟨(i + 1, (rdText b q l.f1).1, (ts ++ [(rdText b q l.f1).2])), by (try dsimp only); (refine ⟨by omega, fun _ => by omega, by simp only [List.length_append, List.length_cons, List.length_nil]; first | done | omega, mem_snoc hx5 (rdText_u8 h0_ q l.f1), mem_snoc hx6 (Nat.le_trans (rdText_len b q l.f1) h1_), ?_⟩; exact (rdTx_next (by omega) (by omega)).symm.trans hx4), by (dsimp only; omega), Env.le_mk ⟨rfl, rfl, rfl, rfl, rfl, ?_, trivial⟩ ⟨rfl, rfl, rfl, rfl, rfl, ?_, trivial⟩ ⟨?_, rfl, rfl, rfl, trivial⟩⟩ <;> (first | rfl | (refine congrArg (fun n => PV.one (.d (.int .i64 n))) ?_; first | rfl | omega | (simp; done)))
  refine T.exit ?_
  refine T.seq ?_
  rcases Bool.eq_false_or_eq_true (decide (q.f1 ≠ 0)) with hb7 | hb7
  ·
   have hb7' := hb7
   replace hb7' := of_decide_eq_true hb7'
   refine T.drawX [{ dst := some 38, pv := (.one (.ptr 800 0)) }, { dst := some 39, pv := (.one (.ptr 800 0)) }, { dst := some 40, pv := (.one (.ptr 800 0)) }, { dst := some 41, pv := (.one (.ptr 800 2)) }, { dst := some 42, pv := (pI q.f1) }, { dst := some 43, pv := (pB true) }, { dst := some 44, pv := (pB true) }, { dst := some 45, pv := (.tup []) }, { dst := some 46, pv := (.tup []) }, { dst := some 47, pv := (.tup []) }, { dst := some 48, pv := (.tup []) }, { dst := some 49, pv := (.tup []) }, { dst := some 50, pv := (.tup []) }, { dst := some 51, pv := (.tup []) }, { dst := some 52, pv := (pB true) }, { dst := some 53, pv := (.tup []), box := some (800, (144, [cS b, cI (rdMust q true 7).f0, cI (rdMust q true 7).f1])) }] (by kernel_rfl) (by kernel_rfl) ?_ ?_
   ·
    refine .cons (fun E hA_ => by have g1 : E.get 1 = (.one (.ptr 800 0)) := (hA_.get 1 (by kernel_rfl)).trans (by kernel_rfl); exact OpStep.plain rfl (Step.move (p := (.one (.ptr 800 0))) (t := 38) rfl rfl (by exact lt_ok rfl) (show Env.ev E (.tmp 1) = _ from g1.trans rfl))) ?_
    refine .cons (fun E hA_ => by have g1 : E.get 1 = (.one (.ptr 800 0)) := (hA_.get 1 (by kernel_rfl)).trans (by kernel_rfl); exact OpStep.plain rfl (Step.move (p := (.one (.ptr 800 0))) (t := 39) rfl rfl (by exact lt_ok rfl) (show Env.ev E (.tmp 1) = _ from g1.trans rfl))) ?_
    refine .cons (fun E hA_ => by have g39 : E.get 39 = (.one (.ptr 800 0)) := (hA_.get 39 (by kernel_rfl)).trans (by kernel_rfl); exact OpStep.plain rfl (Step.nilCheck (t := 40) rfl rfl (by exact lt_ok rfl) (show Env.ev E (.tmp 39) = _ from g39.trans rfl))) ?_
    refine .cons (fun E hA_ => by have g40 : E.get 40 = (.one (.ptr 800 0)) := (hA_.get 40 (by kernel_rfl)).trans (by kernel_rfl); exact OpStep.plain rfl (Step.fa (off := 2) (n := 1) (one := true) 0 41 (show Env.ev E (.tmp 40) = _ from g40.trans rfl))) ?_
    refine .cons (fun E hA_ => by have g41 : E.get 41 = (.one (.ptr 800 2)) := (hA_.get 41 (by kernel_rfl)).trans (by kernel_rfl); have b800 : E.box 800 = some (144, [cS b, cI q.f0, cI q.f1]) := (hA_.box 800 (by kernel_rfl)).trans (by kernel_rfl); exact OpStep.plain rfl (Step.load_box (c := cI q.f1) (t := 42) rfl rfl (by exact lt_ok rfl) (by kernel_rfl) (show Env.ev E (.tmp 41) = _ from g41.trans rfl) b800 rfl)) ?_
    refine .cons (fun E hA_ => by have g42 : E.get 42 = (pI q.f1) := (hA_.get 42 (by kernel_rfl)).trans (by kernel_rfl); exact OpStep.plain rfl (Step.tb 43 (decide (q.f1 ≠ 0)) hb7 (Step.bd 43 (show Env.ev E (.tmp 42) = _ from g42.trans rfl) rfl (Bin.neq (k := .i64) (a := q.f1) (b := 0))))) ?_
    refine .cons (fun E hA_ => by have g43 : E.get 43 = (pB true) := (hA_.get 43 (by kernel_rfl)).trans (by kernel_rfl); exact OpStep.plain rfl (Step.move (p := (pB true)) (t := 44) rfl rfl (by exact lt_ok rfl) (show Env.ev E (.tmp 43) = _ from g43.trans rfl))) ?_
    refine .cons (fun E hA_ => by have g44 : E.get 44 = (pB true) := (hA_.get 44 (by kernel_rfl)).trans (by kernel_rfl); exact OpStep.off (t := 44) rfl rfl (lt_ok rfl) g44 (by decide) rfl (lt_ok rfl)) ?_
    refine .cons (fun E hA_ => by have g44 : E.get 44 = (pB true) := (hA_.get 44 (by kernel_rfl)).trans (by kernel_rfl); exact OpStep.off (t := 44) rfl rfl (lt_ok rfl) g44 (by decide) rfl (lt_ok rfl)) ?_
    refine .cons (fun E hA_ => by have g44 : E.get 44 = (pB true) := (hA_.get 44 (by kernel_rfl)).trans (by kernel_rfl); exact OpStep.off (t := 44) rfl rfl (lt_ok rfl) g44 (by decide) rfl (lt_ok rfl)) ?_
    refine .cons (fun E hA_ => by have g44 : E.get 44 = (pB true) := (hA_.get 44 (by kernel_rfl)).trans (by kernel_rfl); exact OpStep.off (t := 44) rfl rfl (lt_ok rfl) g44 (by decide) rfl (lt_ok rfl)) ?_
    refine .cons (fun E hA_ => by have g44 : E.get 44 = (pB true) := (hA_.get 44 (by kernel_rfl)).trans (by kernel_rfl); exact OpStep.off (t := 44) rfl rfl (lt_ok rfl) g44 (by decide) rfl (lt_ok rfl)) ?_
    refine .cons (fun E hA_ => by have g44 : E.get 44 = (pB true) := (hA_.get 44 (by kernel_rfl)).trans (by kernel_rfl); exact OpStep.off (t := 44) rfl rfl (lt_ok rfl) g44 (by decide) rfl (lt_ok rfl)) ?_
    refine .cons (fun E hA_ => by have g44 : E.get 44 = (pB true) := (hA_.get 44 (by kernel_rfl)).trans (by kernel_rfl); exact OpStep.off (t := 44) rfl rfl (lt_ok rfl) g44 (by decide) rfl (lt_ok rfl)) ?_
    refine .cons (fun E hA_ => by have g44 : E.get 44 = (pB true) := (hA_.get 44 (by kernel_rfl)).trans (by kernel_rfl); have g51 : E.get 51 = (.tup []) := (hA_.get 51 (by kernel_rfl)).trans (by kernel_rfl); exact OpStep.plain rfl (Step.pick (b := true) (p := (pB true)) (t := 52) rfl rfl (by exact lt_ok rfl) (show Env.ev E (.tmp 44) = _ from g44.trans rfl) rfl)) ?_
    refine .cons (fun E hA_ => by have g38 : E.get 38 = (.one (.ptr 800 0)) := (hA_.get 38 (by kernel_rfl)).trans (by kernel_rfl); have g52 : E.get 52 = (pB true) := (hA_.get 52 (by kernel_rfl)).trans (by kernel_rfl); have b800 : E.box 800 = some (144, [cS b, cI q.f0, cI q.f1]) := (hA_.box 800 (by kernel_rfl)).trans (by kernel_rfl); exact OpStep.plain rfl (Step.callXX2 (b := 800) (xs := [.tmp 38, .tmp 52, .const (.int .i64 7)]) (ps := [(.one (.ptr 800 0)), (pB true), (pI 7)]) (bps := [cS b, cI q.f0, cI q.f1]) (ss := []) (g := .func 142) (t := 53) (ok_impl_reader__must b q true 7 (by assumption) (by first | omega | assumption | (simp only [List.length_append] at *; omega))) rfl rfl (by exact lt_ok rfl) rfl (by kernel_rfl) (evs_cons (show Env.ev E (.tmp 38) = _ from g38.trans rfl) (evs_cons (show Env.ev E (.tmp 52) = _ from g52.trans rfl) (evs_cons rfl (rfl)))) (.cons (.bx) (.cons (.rd (.one (.d _))) (.cons (.rd (.one (.d _))) .nil))) b800 (.rd (.rd (.rd .nil))) rfl (handX_fresh (fun x_ hx_ => hA_.fresh x_ (by exact hx_))) (fun x hx => by have := hp x hx; omega) rfl (by simp [rowsOf, rid]))) ?_
    exact .nil _ _
   refine TL.wk [(4, (.one (.ptr 4 0))), (5, (.one (.ptr 5 0)))] [(7010, (5, (.ints .u8 (rdHead l b s).2.f3))), (8010, (5, (.ints .u8 (rdHead l b s).2.f4))), (11010, (5, (.ints .u8 (rdHead l b s).2.f5.f2))), (12010, (5, (.ints .u8 (rdHead l b s).2.f5.f3))), (13010, (24, (.bss (rdHead l b s).2.f5.f4))), (100510, (24, (.bss ts)))] [(800, (144, [cS b, cI (rdMust q true 7).f0, cI (rdMust q true 7).f1])), (2, (34, [cI l.f0, cI l.f1, cI l.f2, cI l.f3, cI l.f4])), (4, (56, [cI 0, cI 0, cI 0, .nil, .nil, cI 0, cI 0, .nil, .nil, .nil, .nil])), (5, (56, [cI (rdHead l b s).2.f0, cI (rdHead l b s).2.f1, cI (rdHead l b s).2.f2, .row 7010 [], .row 8010 [], cI (rdHead l b s).2.f5.f0, cI (rdHead l b s).2.f5.f1, .row 11010 [], .row 12010 [], .row 13010 [], .row 100510 []]))] ?_
   refine TL.nil ?_
   refine T.seq ?_
   refine T.region ?_
   refine TL.c (Step.lba 11 [cI (rdHead l b s).2.f0, cI (rdHead l b s).2.f1, cI (rdHead l b s).2.f2, .row 7010 [], .row 8010 [], cI (rdHead l b s).2.f5.f0, cI (rdHead l b s).2.f5.f1, .row 11010 [], .row 12010 [], .row 13010 [], .row 100510 []]) ?_
   refine TL.c (Step.sb 11 [cI (rdHead l b s).2.f0, cI (rdHead l b s).2.f1, cI (rdHead l b s).2.f2, .row 7010 [], .row 8010 [], cI (rdHead l b s).2.f5.f0, cI (rdHead l b s).2.f5.f1, .row 11010 [], .row 12010 [], .row 13010 [], .row 100510 []]) ?_
   refine TL.nil ?_
   refine T.ret ?_
   refine ⟨[cS b, cI (rdMust q true 7).f0, cI (rdMust q true 7).f1], [(true, [cI (rdHead l b s).2.f0, cI (rdHead l b s).2.f1, cI (rdHead l b s).2.f2, .row 7010 [], .row 8010 [], cI (rdHead l b s).2.f5.f0, cI (rdHead l b s).2.f5.f1, .row 11010 [], .row 12010 [], .row 13010 [], .row 100510 []])], rfl, rfl, (.cons rfl .nil), rfl, [7010, 8010, 11010, 12010, 13010, 100510], (RetC.r rfl (RetC.r ?_ (RetC.r ?_ (RetC.r ?_ (RetC.r ?_ (RetC.r ?_ (RetC.o ?_ (RetC.o ?_ (RetC.r ?_ (RetC.r ?_ (RetC.o ?_ (RetC.o ?_ (RetC.o ?_ (RetC.o ?_ .nil))))))))))))))⟩ <;> (first | rfl | (congr 1; first | (rw [rdBlock_ok (rdB_out hx4 (by omega)) (by omega)]; first | done | rfl) | (rw [rdBlock_no (rdB_out hx4 (by omega)) (by omega)]; first | done | rfl | (rw [rdMust_ok rfl]; first | done | rfl))) | (simp only [D.size, List.length_map]; first | (rw [rdBlock_ok (rdB_out hx4 (by omega)) (by omega)]; first | done | rfl) | (rw [rdBlock_no (rdB_out hx4 (by omega)) (by omega)]; first | done | rfl)))
  have hb7' := hb7
  replace hb7' := of_decide_eq_false hb7'
  have nn8 := treeRoot_len ts
  have nn9 := treeRoot_u8 ts
  refine T.drawX [{ dst := some 38, pv := (.one (.ptr 800 0)) }, { dst := some 39, pv := (.one (.ptr 800 0)) }, { dst := some 40, pv := (.one (.ptr 800 0)) }, { dst := some 41, pv := (.one (.ptr 800 2)) }, { dst := some 42, pv := (pI q.f1) }, { dst := some 43, pv := (pB false) }, { dst := some 44, pv := (pB false) }, { dst := some 45, pv := (.one (.ptr 5 0)) }, { dst := some 46, pv := (.one (.ptr 5 4)) }, { dst := some 47, pv := (.one (.row 8010 [])) }, { dst := some 48, pv := (.one (.ptr 5 10)) }, { dst := some 49, pv := (.one (.row 100510 [])) }, { dst := some 50, pv := (.one (.row 1050 [])), rows := [(1050, (5, (.ints .u8 (treeRoot ts))))] }, { dst := some 51, pv := (pB (decide ((rdHead l b s).2.f4 = (treeRoot ts)))) }, { dst := some 52, pv := (pB (decide ((rdHead l b s).2.f4 = (treeRoot ts)))) }, { dst := some 53, pv := (.tup []), box := some (800, (144, [cS b, cI (rdMust q (decide ((rdHead l b s).2.f4 = (treeRoot ts))) 7).f0, cI (rdMust q (decide ((rdHead l b s).2.f4 = (treeRoot ts))) 7).f1])) }] (by kernel_rfl) (by kernel_rfl) ?_ ?_
  ·
   refine .cons (fun E hA_ => by have g1 : E.get 1 = (.one (.ptr 800 0)) := (hA_.get 1 (by kernel_rfl)).trans (by kernel_rfl); exact OpStep.plain rfl (Step.move (p := (.one (.ptr 800 0))) (t := 38) rfl rfl (by exact lt_ok rfl) (show Env.ev E (.tmp 1) = _ from g1.trans rfl))) ?_
   refine .cons (fun E hA_ => by have g1 : E.get 1 = (.one (.ptr 800 0)) := (hA_.get 1 (by kernel_rfl)).trans (by kernel_rfl); exact OpStep.plain rfl (Step.move (p := (.one (.ptr 800 0))) (t := 39) rfl rfl (by exact lt_ok rfl) (show Env.ev E (.tmp 1) = _ from g1.trans rfl))) ?_
   refine .cons (fun E hA_ => by have g39 : E.get 39 = (.one (.ptr 800 0)) := (hA_.get 39 (by kernel_rfl)).trans (by kernel_rfl); exact OpStep.plain rfl (Step.nilCheck (t := 40) rfl rfl (by exact lt_ok rfl) (show Env.ev E (.tmp 39) = _ from g39.trans rfl))) ?_
   refine .cons (fun E hA_ => by have g40 : E.get 40 = (.one (.ptr 800 0)) := (hA_.get 40 (by kernel_rfl)).trans (by kernel_rfl); exact OpStep.plain rfl (Step.fa (off := 2) (n := 1) (one := true) 0 41 (show Env.ev E (.tmp 40) = _ from g40.trans rfl))) ?_
   refine .cons (fun E hA_ => by have g41 : E.get 41 = (.one (.ptr 800 2)) := (hA_.get 41 (by kernel_rfl)).trans (by kernel_rfl); have b800 : E.box 800 = some (144, [cS b, cI q.f0, cI q.f1]) := (hA_.box 800 (by kernel_rfl)).trans (by kernel_rfl); exact OpStep.plain rfl (Step.load_box (c := cI q.f1) (t := 42) rfl rfl (by exact lt_ok rfl) (by kernel_rfl) (show Env.ev E (.tmp 41) = _ from g41.trans rfl) b800 rfl)) ?_
   refine .cons (fun E hA_ => by have g42 : E.get 42 = (pI q.f1) := (hA_.get 42 (by kernel_rfl)).trans (by kernel_rfl); exact OpStep.plain rfl (Step.tb 43 (decide (q.f1 ≠ 0)) hb7 (Step.bd 43 (show Env.ev E (.tmp 42) = _ from g42.trans rfl) rfl (Bin.neq (k := .i64) (a := q.f1) (b := 0))))) ?_
   refine .cons (fun E hA_ => by have g43 : E.get 43 = (pB false) := (hA_.get 43 (by kernel_rfl)).trans (by kernel_rfl); exact OpStep.plain rfl (Step.move (p := (pB false)) (t := 44) rfl rfl (by exact lt_ok rfl) (show Env.ev E (.tmp 43) = _ from g43.trans rfl))) ?_
   refine .cons (fun E hA_ => by have g5 : E.get 5 = (.one (.ptr 5 0)) := (hA_.get 5 (by kernel_rfl)).trans (by kernel_rfl); have g44 : E.get 44 = (pB false) := (hA_.get 44 (by kernel_rfl)).trans (by kernel_rfl); exact OpStep.yes (t := 44) rfl rfl (lt_ok rfl) g44 (Step.fa (off := 0) (n := 10) (one := false) 0 45 (show Env.ev E (.tmp 5) = _ from g5.trans rfl))) ?_
   refine .cons (fun E hA_ => by have g44 : E.get 44 = (pB false) := (hA_.get 44 (by kernel_rfl)).trans (by kernel_rfl); have g45 : E.get 45 = (.one (.ptr 5 0)) := (hA_.get 45 (by kernel_rfl)).trans (by kernel_rfl); exact OpStep.yes (t := 44) rfl rfl (lt_ok rfl) g44 (Step.fa (off := 4) (n := 1) (one := true) 0 46 (show Env.ev E (.tmp 45) = _ from g45.trans rfl))) ?_
   refine .cons (fun E hA_ => by have g44 : E.get 44 = (pB false) := (hA_.get 44 (by kernel_rfl)).trans (by kernel_rfl); have g46 : E.get 46 = (.one (.ptr 5 4)) := (hA_.get 46 (by kernel_rfl)).trans (by kernel_rfl); have b5 : E.box 5 = some (56, [cI (rdHead l b s).2.f0, cI (rdHead l b s).2.f1, cI (rdHead l b s).2.f2, .row 7010 [], .row 8010 [], cI (rdHead l b s).2.f5.f0, cI (rdHead l b s).2.f5.f1, .row 11010 [], .row 12010 [], .row 13010 [], .row 100510 []]) := (hA_.box 5 (by kernel_rfl)).trans (by kernel_rfl); exact OpStep.yes (t := 44) rfl rfl (lt_ok rfl) g44 (Step.load_box (c := .row 8010 []) (t := 47) rfl rfl (by exact lt_ok rfl) (by kernel_rfl) (show Env.ev E (.tmp 46) = _ from g46.trans rfl) b5 rfl)) ?_
   refine .cons (fun E hA_ => by have g5 : E.get 5 = (.one (.ptr 5 0)) := (hA_.get 5 (by kernel_rfl)).trans (by kernel_rfl); have g44 : E.get 44 = (pB false) := (hA_.get 44 (by kernel_rfl)).trans (by kernel_rfl); exact OpStep.yes (t := 44) rfl rfl (lt_ok rfl) g44 (Step.fa (off := 10) (n := 1) (one := true) 0 48 (show Env.ev E (.tmp 5) = _ from g5.trans rfl))) ?_
   refine .cons (fun E hA_ => by have g44 : E.get 44 = (pB false) := (hA_.get 44 (by kernel_rfl)).trans (by kernel_rfl); have g48 : E.get 48 = (.one (.ptr 5 10)) := (hA_.get 48 (by kernel_rfl)).trans (by kernel_rfl); have b5 : E.box 5 = some (56, [cI (rdHead l b s).2.f0, cI (rdHead l b s).2.f1, cI (rdHead l b s).2.f2, .row 7010 [], .row 8010 [], cI (rdHead l b s).2.f5.f0, cI (rdHead l b s).2.f5.f1, .row 11010 [], .row 12010 [], .row 13010 [], .row 100510 []]) := (hA_.box 5 (by kernel_rfl)).trans (by kernel_rfl); exact OpStep.yes (t := 44) rfl rfl (lt_ok rfl) g44 (Step.load_box (c := .row 100510 []) (t := 49) rfl rfl (by exact lt_ok rfl) (by kernel_rfl) (show Env.ev E (.tmp 48) = _ from g48.trans rfl) b5 rfl)) ?_
   refine .cons (fun E hA_ => by have g44 : E.get 44 = (pB false) := (hA_.get 44 (by kernel_rfl)).trans (by kernel_rfl); have g49 : E.get 49 = (.one (.row 100510 [])) := (hA_.get 49 (by kernel_rfl)).trans (by kernel_rfl); have q100510 : E.row 100510 = some (24, (.bss ts)) := (hA_.row 100510 (by kernel_rfl)).trans (by kernel_rfl); exact OpStep.yes (t := 44) rfl rfl (lt_ok rfl) g44 (Step.call (f := 119) (xs := [.tmp 49]) (ps := [(.one (.row 100510 []))]) false (g := .func 119) (t := 50) rfl rfl (by exact lt_ok rfl) rfl (by kernel_rfl) (evs_cons (show Env.ev E (.tmp 49) = _ from g49.trans rfl) (rfl)) (.cons (.one (.row rfl q100510 rfl rfl)) .nil) (ok_impl_TreeRoot ts (by first | assumption | exact mem_sub (by assumption) _ _ | exact s0.2 | exact o1) (by first | assumption | exact mem_sub (by assumption) _ _ | exact s0.2 | exact s1.2)) (.inr rfl) (freshRows_of _ _ (fun x_ hx_ => hA_.fresh x_ (by exact hx_))) (fun x hx => by have := hp x hx; omega) rfl)) ?_
   refine .cons (fun E hA_ => by have g44 : E.get 44 = (pB false) := (hA_.get 44 (by kernel_rfl)).trans (by kernel_rfl); have g47 : E.get 47 = (.one (.row 8010 [])) := (hA_.get 47 (by kernel_rfl)).trans (by kernel_rfl); have g50 : E.get 50 = (.one (.row 1050 [])) := (hA_.get 50 (by kernel_rfl)).trans (by kernel_rfl); have q1050 : E.row 1050 = some (5, (.ints .u8 (treeRoot ts))) := (hA_.row 1050 (by kernel_rfl)).trans (by kernel_rfl); have q8010 : E.row 8010 = some (5, (.ints .u8 (rdHead l b s).2.f4)) := (hA_.row 8010 (by kernel_rfl)).trans (by kernel_rfl); exact OpStep.yes (t := 44) rfl rfl (lt_ok rfl) g44 (Step.call (f := 107) (xs := [.tmp 47, .tmp 50]) (ps := [(.one (.row 8010 [])), (.one (.row 1050 []))]) false (g := .func 107) (t := 51) rfl rfl (by exact lt_ok rfl) rfl (by kernel_rfl) (evs_cons (show Env.ev E (.tmp 47) = _ from g47.trans rfl) (evs_cons (show Env.ev E (.tmp 50) = _ from g50.trans rfl) (rfl))) (.cons (.one (.row rfl q8010 rfl rfl)) (.cons (.one (.row rfl q1050 rfl rfl)) .nil)) (ok_impl_SameBytes (rdHead l b s).2.f4 (treeRoot ts) (by first | assumption | omega | exact treeRoot_u8 _) (by first | assumption | omega | exact treeRoot_u8 _)) (.inr rfl) (freshRows_of _ _ (fun x_ hx_ => hA_.fresh x_ (by exact hx_))) (fun x hx => by have := hp x hx; omega) rfl)) ?_
   refine .cons (fun E hA_ => by have g44 : E.get 44 = (pB false) := (hA_.get 44 (by kernel_rfl)).trans (by kernel_rfl); have g51 : E.get 51 = (pB (decide ((rdHead l b s).2.f4 = (treeRoot ts)))) := (hA_.get 51 (by kernel_rfl)).trans (by kernel_rfl); exact OpStep.plain rfl (Step.pick (b := false) (p := (pB (decide ((rdHead l b s).2.f4 = (treeRoot ts))))) (t := 52) rfl rfl (by exact lt_ok rfl) (show Env.ev E (.tmp 44) = _ from g44.trans rfl) (show Env.ev E (.tmp 51) = _ from g51.trans rfl))) ?_
   refine .cons (fun E hA_ => by have g38 : E.get 38 = (.one (.ptr 800 0)) := (hA_.get 38 (by kernel_rfl)).trans (by kernel_rfl); have g52 : E.get 52 = (pB (decide ((rdHead l b s).2.f4 = (treeRoot ts)))) := (hA_.get 52 (by kernel_rfl)).trans (by kernel_rfl); have b800 : E.box 800 = some (144, [cS b, cI q.f0, cI q.f1]) := (hA_.box 800 (by kernel_rfl)).trans (by kernel_rfl); exact OpStep.plain rfl (Step.callXX2 (b := 800) (xs := [.tmp 38, .tmp 52, .const (.int .i64 7)]) (ps := [(.one (.ptr 800 0)), (pB (decide ((rdHead l b s).2.f4 = (treeRoot ts)))), (pI 7)]) (bps := [cS b, cI q.f0, cI q.f1]) (ss := []) (g := .func 142) (t := 53) (ok_impl_reader__must b q (decide ((rdHead l b s).2.f4 = (treeRoot ts))) 7 (by assumption) (by first | omega | assumption | (simp only [List.length_append] at *; omega))) rfl rfl (by exact lt_ok rfl) rfl (by kernel_rfl) (evs_cons (show Env.ev E (.tmp 38) = _ from g38.trans rfl) (evs_cons (show Env.ev E (.tmp 52) = _ from g52.trans rfl) (evs_cons rfl (rfl)))) (.cons (.bx) (.cons (.rd (.one (.d _))) (.cons (.rd (.one (.d _))) .nil))) b800 (.rd (.rd (.rd .nil))) rfl (handX_fresh (fun x_ hx_ => hA_.fresh x_ (by exact hx_))) (fun x hx => by have := hp x hx; omega) rfl (by simp [rowsOf, rid]))) ?_
   exact .nil _ _
  refine TL.wk [(4, (.one (.ptr 4 0))), (5, (.one (.ptr 5 0)))] [(7010, (5, (.ints .u8 (rdHead l b s).2.f3))), (8010, (5, (.ints .u8 (rdHead l b s).2.f4))), (11010, (5, (.ints .u8 (rdHead l b s).2.f5.f2))), (12010, (5, (.ints .u8 (rdHead l b s).2.f5.f3))), (13010, (24, (.bss (rdHead l b s).2.f5.f4))), (100510, (24, (.bss ts))), (1050, (5, (.ints .u8 (treeRoot ts))))] [(800, (144, [cS b, cI (rdMust q (decide ((rdHead l b s).2.f4 = (treeRoot ts))) 7).f0, cI (rdMust q (decide ((rdHead l b s).2.f4 = (treeRoot ts))) 7).f1])), (2, (34, [cI l.f0, cI l.f1, cI l.f2, cI l.f3, cI l.f4])), (4, (56, [cI 0, cI 0, cI 0, .nil, .nil, cI 0, cI 0, .nil, .nil, .nil, .nil])), (5, (56, [cI (rdHead l b s).2.f0, cI (rdHead l b s).2.f1, cI (rdHead l b s).2.f2, .row 7010 [], .row 8010 [], cI (rdHead l b s).2.f5.f0, cI (rdHead l b s).2.f5.f1, .row 11010 [], .row 12010 [], .row 13010 [], .row 100510 []]))] ?_
  refine TL.nil ?_
  refine T.seq ?_
  refine T.region ?_
  refine TL.c (Step.lba 11 [cI (rdHead l b s).2.f0, cI (rdHead l b s).2.f1, cI (rdHead l b s).2.f2, .row 7010 [], .row 8010 [], cI (rdHead l b s).2.f5.f0, cI (rdHead l b s).2.f5.f1, .row 11010 [], .row 12010 [], .row 13010 [], .row 100510 []]) ?_
  refine TL.c (Step.sb 11 [cI (rdHead l b s).2.f0, cI (rdHead l b s).2.f1, cI (rdHead l b s).2.f2, .row 7010 [], .row 8010 [], cI (rdHead l b s).2.f5.f0, cI (rdHead l b s).2.f5.f1, .row 11010 [], .row 12010 [], .row 13010 [], .row 100510 []]) ?_
  refine TL.nil ?_
  refine T.ret ?_
  refine ⟨[cS b, cI (rdMust q (decide ((rdHead l b s).2.f4 = (treeRoot ts))) 7).f0, cI (rdMust q (decide ((rdHead l b s).2.f4 = (treeRoot ts))) 7).f1], [(true, [cI (rdHead l b s).2.f0, cI (rdHead l b s).2.f1, cI (rdHead l b s).2.f2, .row 7010 [], .row 8010 [], cI (rdHead l b s).2.f5.f0, cI (rdHead l b s).2.f5.f1, .row 11010 [], .row 12010 [], .row 13010 [], .row 100510 []])], rfl, rfl, (.cons rfl .nil), rfl, [7010, 8010, 11010, 12010, 13010, 100510], (RetC.r rfl (RetC.r ?_ (RetC.r ?_ (RetC.r ?_ (RetC.r ?_ (RetC.r ?_ (RetC.o ?_ (RetC.o ?_ (RetC.r ?_ (RetC.r ?_ (RetC.o ?_ (RetC.o ?_ (RetC.o ?_ (RetC.o ?_ .nil))))))))))))))⟩ <;> (first | rfl | (congr 1; first | (rw [rdBlock_ok (rdB_out hx4 (by omega)) (by omega)]; first | done | rfl) | (rw [rdBlock_no (rdB_out hx4 (by omega)) (by omega)]; first | done | rfl | (rw [rdMust_ok rfl]; first | done | rfl))) | (simp only [D.size, List.length_map]; first | (rw [rdBlock_ok (rdB_out hx4 (by omega)) (by omega)]; first | done | rfl) | (rw [rdBlock_no (rdB_out hx4 (by omega)) (by omega)]; first | done | rfl)))
 refine TL.known 20 hb4 rfl ?_
 have hb4' := hb4
 replace hb4' := of_decide_eq_false hb4'
 refine TL.gf 20 ?_
 refine TL.gf 20 ?_
 refine TL.gf 20 ?_
 refine TL.gf 20 ?_
 refine TL.gf 20 ?_
 refine TL.pk false (pB false) ?_
 refine TL.nil ?_
 refine T.cf ?_
 refine T.exit ?_
 refine T.seq ?_
 rcases Bool.eq_false_or_eq_true (decide (q.f1 ≠ 0)) with hb10 | hb10
 ·
  have hb10' := hb10
  replace hb10' := of_decide_eq_true hb10'
  refine T.drawX [{ dst := some 38, pv := (.one (.ptr 800 0)) }, { dst := some 39, pv := (.one (.ptr 800 0)) }, { dst := some 40, pv := (.one (.ptr 800 0)) }, { dst := some 41, pv := (.one (.ptr 800 2)) }, { dst := some 42, pv := (pI q.f1) }, { dst := some 43, pv := (pB true) }, { dst := some 44, pv := (pB true) }, { dst := some 45, pv := (.tup []) }, { dst := some 46, pv := (.tup []) }, { dst := some 47, pv := (.tup []) }, { dst := some 48, pv := (.tup []) }, { dst := some 49, pv := (.tup []) }, { dst := some 50, pv := (.tup []) }, { dst := some 51, pv := (.tup []) }, { dst := some 52, pv := (pB true) }, { dst := some 53, pv := (.tup []), box := some (800, (144, [cS b, cI (rdMust q true 7).f0, cI (rdMust q true 7).f1])) }] (by kernel_rfl) (by kernel_rfl) ?_ ?_
  ·
   refine .cons (fun E hA_ => by have g1 : E.get 1 = (.one (.ptr 800 0)) := (hA_.get 1 (by kernel_rfl)).trans (by kernel_rfl); exact OpStep.plain rfl (Step.move (p := (.one (.ptr 800 0))) (t := 38) rfl rfl (by exact lt_ok rfl) (show Env.ev E (.tmp 1) = _ from g1.trans rfl))) ?_
   refine .cons (fun E hA_ => by have g1 : E.get 1 = (.one (.ptr 800 0)) := (hA_.get 1 (by kernel_rfl)).trans (by kernel_rfl); exact OpStep.plain rfl (Step.move (p := (.one (.ptr 800 0))) (t := 39) rfl rfl (by exact lt_ok rfl) (show Env.ev E (.tmp 1) = _ from g1.trans rfl))) ?_
   refine .cons (fun E hA_ => by have g39 : E.get 39 = (.one (.ptr 800 0)) := (hA_.get 39 (by kernel_rfl)).trans (by kernel_rfl); exact OpStep.plain rfl (Step.nilCheck (t := 40) rfl rfl (by exact lt_ok rfl) (show Env.ev E (.tmp 39) = _ from g39.trans rfl))) ?_
   refine .cons (fun E hA_ => by have g40 : E.get 40 = (.one (.ptr 800 0)) := (hA_.get 40 (by kernel_rfl)).trans (by kernel_rfl); exact OpStep.plain rfl (Step.fa (off := 2) (n := 1) (one := true) 0 41 (show Env.ev E (.tmp 40) = _ from g40.trans rfl))) ?_
   refine .cons (fun E hA_ => by have g41 : E.get 41 = (.one (.ptr 800 2)) := (hA_.get 41 (by kernel_rfl)).trans (by kernel_rfl); have b800 : E.box 800 = some (144, [cS b, cI q.f0, cI q.f1]) := (hA_.box 800 (by kernel_rfl)).trans (by kernel_rfl); exact OpStep.plain rfl (Step.load_box (c := cI q.f1) (t := 42) rfl rfl (by exact lt_ok rfl) (by kernel_rfl) (show Env.ev E (.tmp 41) = _ from g41.trans rfl) b800 rfl)) ?_
   refine .cons (fun E hA_ => by have g42 : E.get 42 = (pI q.f1) := (hA_.get 42 (by kernel_rfl)).trans (by kernel_rfl); exact OpStep.plain rfl (Step.tb 43 (decide (q.f1 ≠ 0)) hb10 (Step.bd 43 (show Env.ev E (.tmp 42) = _ from g42.trans rfl) rfl (Bin.neq (k := .i64) (a := q.f1) (b := 0))))) ?_
   refine .cons (fun E hA_ => by have g43 : E.get 43 = (pB true) := (hA_.get 43 (by kernel_rfl)).trans (by kernel_rfl); exact OpStep.plain rfl (Step.move (p := (pB true)) (t := 44) rfl rfl (by exact lt_ok rfl) (show Env.ev E (.tmp 43) = _ from g43.trans rfl))) ?_
   refine .cons (fun E hA_ => by have g44 : E.get 44 = (pB true) := (hA_.get 44 (by kernel_rfl)).trans (by kernel_rfl); exact OpStep.off (t := 44) rfl rfl (lt_ok rfl) g44 (by decide) rfl (lt_ok rfl)) ?_
   refine .cons (fun E hA_ => by have g44 : E.get 44 = (pB true) := (hA_.get 44 (by kernel_rfl)).trans (by kernel_rfl); exact OpStep.off (t := 44) rfl rfl (lt_ok rfl) g44 (by decide) rfl (lt_ok rfl)) ?_
   refine .cons (fun E hA_ => by have g44 : E.get 44 = (pB true) := (hA_.get 44 (by kernel_rfl)).trans (by kernel_rfl); exact OpStep.off (t := 44) rfl rfl (lt_ok rfl) g44 (by decide) rfl (lt_ok rfl)) ?_
   refine .cons (fun E hA_ => by have g44 : E.get 44 = (pB true) := (hA_.get 44 (by kernel_rfl)).trans (by kernel_rfl); exact OpStep.off (t := 44) rfl rfl (lt_ok rfl) g44 (by decide) rfl (lt_ok rfl)) ?_
   refine .cons (fun E hA_ => by have g44 : E.get 44 = (pB true) := (hA_.get 44 (by kernel_rfl)).trans (by kernel_rfl); exact OpStep.off (t := 44) rfl rfl (lt_ok rfl) g44 (by decide) rfl (lt_ok rfl)) ?_
   refine .cons (fun E hA_ => by have g44 : E.get 44 = (pB true) := (hA_.get 44 (by kernel_rfl)).trans (by kernel_rfl); exact OpStep.off (t := 44) rfl rfl (lt_ok rfl) g44 (by decide) rfl (lt_ok rfl)) ?_
   refine .cons (fun E hA_ => by have g44 : E.get 44 = (pB true) := (hA_.get 44 (by kernel_rfl)).trans (by kernel_rfl); exact OpStep.off (t := 44) rfl rfl (lt_ok rfl) g44 (by decide) rfl (lt_ok rfl)) ?_
   refine .cons (fun E hA_ => by have g44 : E.get 44 = (pB true) := (hA_.get 44 (by kernel_rfl)).trans (by kernel_rfl); have g51 : E.get 51 = (.tup []) := (hA_.get 51 (by kernel_rfl)).trans (by kernel_rfl); exact OpStep.plain rfl (Step.pick (b := true) (p := (pB true)) (t := 52) rfl rfl (by exact lt_ok rfl) (show Env.ev E (.tmp 44) = _ from g44.trans rfl) rfl)) ?_
   refine .cons (fun E hA_ => by have g38 : E.get 38 = (.one (.ptr 800 0)) := (hA_.get 38 (by kernel_rfl)).trans (by kernel_rfl); have g52 : E.get 52 = (pB true) := (hA_.get 52 (by kernel_rfl)).trans (by kernel_rfl); have b800 : E.box 800 = some (144, [cS b, cI q.f0, cI q.f1]) := (hA_.box 800 (by kernel_rfl)).trans (by kernel_rfl); exact OpStep.plain rfl (Step.callXX2 (b := 800) (xs := [.tmp 38, .tmp 52, .const (.int .i64 7)]) (ps := [(.one (.ptr 800 0)), (pB true), (pI 7)]) (bps := [cS b, cI q.f0, cI q.f1]) (ss := []) (g := .func 142) (t := 53) (ok_impl_reader__must b q true 7 (by assumption) (by first | omega | assumption | (simp only [List.length_append] at *; omega))) rfl rfl (by exact lt_ok rfl) rfl (by kernel_rfl) (evs_cons (show Env.ev E (.tmp 38) = _ from g38.trans rfl) (evs_cons (show Env.ev E (.tmp 52) = _ from g52.trans rfl) (evs_cons rfl (rfl)))) (.cons (.bx) (.cons (.rd (.one (.d _))) (.cons (.rd (.one (.d _))) .nil))) b800 (.rd (.rd (.rd .nil))) rfl (handX_fresh (fun x_ hx_ => hA_.fresh x_ (by exact hx_))) (fun x hx => by have := hp x hx; omega) rfl (by simp [rowsOf, rid]))) ?_
   exact .nil _ _
  refine TL.wk [(4, (.one (.ptr 4 0))), (5, (.one (.ptr 5 0)))] [(7010, (5, (.ints .u8 (rdHead l b s).2.f3))), (8010, (5, (.ints .u8 (rdHead l b s).2.f4))), (11010, (5, (.ints .u8 (rdHead l b s).2.f5.f2))), (12010, (5, (.ints .u8 (rdHead l b s).2.f5.f3))), (13010, (24, (.bss (rdHead l b s).2.f5.f4))), (100510, (24, (.bss ts)))] [(800, (144, [cS b, cI (rdMust q true 7).f0, cI (rdMust q true 7).f1])), (2, (34, [cI l.f0, cI l.f1, cI l.f2, cI l.f3, cI l.f4])), (4, (56, [cI 0, cI 0, cI 0, .nil, .nil, cI 0, cI 0, .nil, .nil, .nil, .nil])), (5, (56, [cI (rdHead l b s).2.f0, cI (rdHead l b s).2.f1, cI (rdHead l b s).2.f2, .row 7010 [], .row 8010 [], cI (rdHead l b s).2.f5.f0, cI (rdHead l b s).2.f5.f1, .row 11010 [], .row 12010 [], .row 13010 [], .row 100510 []]))] ?_
  refine TL.nil ?_
  refine T.seq ?_
  refine T.region ?_
  refine TL.c (Step.lba 11 [cI (rdHead l b s).2.f0, cI (rdHead l b s).2.f1, cI (rdHead l b s).2.f2, .row 7010 [], .row 8010 [], cI (rdHead l b s).2.f5.f0, cI (rdHead l b s).2.f5.f1, .row 11010 [], .row 12010 [], .row 13010 [], .row 100510 []]) ?_
  refine TL.c (Step.sb 11 [cI (rdHead l b s).2.f0, cI (rdHead l b s).2.f1, cI (rdHead l b s).2.f2, .row 7010 [], .row 8010 [], cI (rdHead l b s).2.f5.f0, cI (rdHead l b s).2.f5.f1, .row 11010 [], .row 12010 [], .row 13010 [], .row 100510 []]) ?_
  refine TL.nil ?_
  refine T.ret ?_
  refine ⟨[cS b, cI (rdMust q true 7).f0, cI (rdMust q true 7).f1], [(true, [cI (rdHead l b s).2.f0, cI (rdHead l b s).2.f1, cI (rdHead l b s).2.f2, .row 7010 [], .row 8010 [], cI (rdHead l b s).2.f5.f0, cI (rdHead l b s).2.f5.f1, .row 11010 [], .row 12010 [], .row 13010 [], .row 100510 []])], rfl, rfl, (.cons rfl .nil), rfl, [7010, 8010, 11010, 12010, 13010, 100510], (RetC.r rfl (RetC.r ?_ (RetC.r ?_ (RetC.r ?_ (RetC.r ?_ (RetC.r ?_ (RetC.o ?_ (RetC.o ?_ (RetC.r ?_ (RetC.r ?_ (RetC.o ?_ (RetC.o ?_ (RetC.o ?_ (RetC.o ?_ .nil))))))))))))))⟩ <;> (first | rfl | (congr 1; first | (rw [rdBlock_ok (rdB_out hx4 (by omega)) (by omega)]; first | done | rfl) | (rw [rdBlock_no (rdB_out hx4 (by omega)) (by omega)]; first | done | rfl | (rw [rdMust_ok rfl]; first | done | rfl))) | (simp only [D.size, List.length_map]; first | (rw [rdBlock_ok (rdB_out hx4 (by omega)) (by omega)]; first | done | rfl) | (rw [rdBlock_no (rdB_out hx4 (by omega)) (by omega)]; first | done | rfl)))
 have hb10' := hb10
 replace hb10' := of_decide_eq_false hb10'
 have nn11 := treeRoot_len ts
 have nn12 := treeRoot_u8 ts
 refine T.drawX [{ dst := some 38, pv := (.one (.ptr 800 0)) }, { dst := some 39, pv := (.one (.ptr 800 0)) }, { dst := some 40, pv := (.one (.ptr 800 0)) }, { dst := some 41, pv := (.one (.ptr 800 2)) }, { dst := some 42, pv := (pI q.f1) }, { dst := some 43, pv := (pB false) }, { dst := some 44, pv := (pB false) }, { dst := some 45, pv := (.one (.ptr 5 0)) }, { dst := some 46, pv := (.one (.ptr 5 4)) }, { dst := some 47, pv := (.one (.row 8010 [])) }, { dst := some 48, pv := (.one (.ptr 5 10)) }, { dst := some 49, pv := (.one (.row 100510 [])) }, { dst := some 50, pv := (.one (.row 1050 [])), rows := [(1050, (5, (.ints .u8 (treeRoot ts))))] }, { dst := some 51, pv := (pB (decide ((rdHead l b s).2.f4 = (treeRoot ts)))) }, { dst := some 52, pv := (pB (decide ((rdHead l b s).2.f4 = (treeRoot ts)))) }, { dst := some 53, pv := (.tup []), box := some (800, (144, [cS b, cI (rdMust q (decide ((rdHead l b s).2.f4 = (treeRoot ts))) 7).f0, cI (rdMust q (decide ((rdHead l b s).2.f4 = (treeRoot ts))) 7).f1])) }] (by kernel_rfl) (by kernel_rfl) ?_ ?_
 ·
  refine .cons (fun E hA_ => by have g1 : E.get 1 = (.one (.ptr 800 0)) := (hA_.get 1 (by kernel_rfl)).trans (by kernel_rfl); exact OpStep.plain rfl (Step.move (p := (.one (.ptr 800 0))) (t := 38) rfl rfl (by exact lt_ok rfl) (show Env.ev E (.tmp 1) = _ from g1.trans rfl))) ?_
  refine .cons (fun E hA_ => by have g1 : E.get 1 = (.one (.ptr 800 0)) := (hA_.get 1 (by kernel_rfl)).trans (by kernel_rfl); exact OpStep.plain rfl (Step.move (p := (.one (.ptr 800 0))) (t := 39) rfl rfl (by exact lt_ok rfl) (show Env.ev E (.tmp 1) = _ from g1.trans rfl))) ?_
  refine .cons (fun E hA_ => by have g39 : E.get 39 = (.one (.ptr 800 0)) := (hA_.get 39 (by kernel_rfl)).trans (by kernel_rfl); exact OpStep.plain rfl (Step.nilCheck (t := 40) rfl rfl (by exact lt_ok rfl) (show Env.ev E (.tmp 39) = _ from g39.trans rfl))) ?_
  refine .cons (fun E hA_ => by have g40 : E.get 40 = (.one (.ptr 800 0)) := (hA_.get 40 (by kernel_rfl)).trans (by kernel_rfl); exact OpStep.plain rfl (Step.fa (off := 2) (n := 1) (one := true) 0 41 (show Env.ev E (.tmp 40) = _ from g40.trans rfl))) ?_
  refine .cons (fun E hA_ => by have g41 : E.get 41 = (.one (.ptr 800 2)) := (hA_.get 41 (by kernel_rfl)).trans (by kernel_rfl); have b800 : E.box 800 = some (144, [cS b, cI q.f0, cI q.f1]) := (hA_.box 800 (by kernel_rfl)).trans (by kernel_rfl); exact OpStep.plain rfl (Step.load_box (c := cI q.f1) (t := 42) rfl rfl (by exact lt_ok rfl) (by kernel_rfl) (show Env.ev E (.tmp 41) = _ from g41.trans rfl) b800 rfl)) ?_
  refine .cons (fun E hA_ => by have g42 : E.get 42 = (pI q.f1) := (hA_.get 42 (by kernel_rfl)).trans (by kernel_rfl); exact OpStep.plain rfl (Step.tb 43 (decide (q.f1 ≠ 0)) hb10 (Step.bd 43 (show Env.ev E (.tmp 42) = _ from g42.trans rfl) rfl (Bin.neq (k := .i64) (a := q.f1) (b := 0))))) ?_
  refine .cons (fun E hA_ => by have g43 : E.get 43 = (pB false) := (hA_.get 43 (by kernel_rfl)).trans (by kernel_rfl); exact OpStep.plain rfl (Step.move (p := (pB false)) (t := 44) rfl rfl (by exact lt_ok rfl) (show Env.ev E (.tmp 43) = _ from g43.trans rfl))) ?_
  refine .cons (fun E hA_ => by have g5 : E.get 5 = (.one (.ptr 5 0)) := (hA_.get 5 (by kernel_rfl)).trans (by kernel_rfl); have g44 : E.get 44 = (pB false) := (hA_.get 44 (by kernel_rfl)).trans (by kernel_rfl); exact OpStep.yes (t := 44) rfl rfl (lt_ok rfl) g44 (Step.fa (off := 0) (n := 10) (one := false) 0 45 (show Env.ev E (.tmp 5) = _ from g5.trans rfl))) ?_
  refine .cons (fun E hA_ => by have g44 : E.get 44 = (pB false) := (hA_.get 44 (by kernel_rfl)).trans (by kernel_rfl); have g45 : E.get 45 = (.one (.ptr 5 0)) := (hA_.get 45 (by kernel_rfl)).trans (by kernel_rfl); exact OpStep.yes (t := 44) rfl rfl (lt_ok rfl) g44 (Step.fa (off := 4) (n := 1) (one := true) 0 46 (show Env.ev E (.tmp 45) = _ from g45.trans rfl))) ?_
  refine .cons (fun E hA_ => by have g44 : E.get 44 = (pB false) := (hA_.get 44 (by kernel_rfl)).trans (by kernel_rfl); have g46 : E.get 46 = (.one (.ptr 5 4)) := (hA_.get 46 (by kernel_rfl)).trans (by kernel_rfl); have b5 : E.box 5 = some (56, [cI (rdHead l b s).2.f0, cI (rdHead l b s).2.f1, cI (rdHead l b s).2.f2, .row 7010 [], .row 8010 [], cI (rdHead l b s).2.f5.f0, cI (rdHead l b s).2.f5.f1, .row 11010 [], .row 12010 [], .row 13010 [], .row 100510 []]) := (hA_.box 5 (by kernel_rfl)).trans (by kernel_rfl); exact OpStep.yes (t := 44) rfl rfl (lt_ok rfl) g44 (Step.load_box (c := .row 8010 []) (t := 47) rfl rfl (by exact lt_ok rfl) (by kernel_rfl) (show Env.ev E (.tmp 46) = _ from g46.trans rfl) b5 rfl)) ?_
  refine .cons (fun E hA_ => by have g5 : E.get 5 = (.one (.ptr 5 0)) := (hA_.get 5 (by kernel_rfl)).trans (by kernel_rfl); have g44 : E.get 44 = (pB false) := (hA_.get 44 (by kernel_rfl)).trans (by kernel_rfl); exact OpStep.yes (t := 44) rfl rfl (lt_ok rfl) g44 (Step.fa (off := 10) (n := 1) (one := true) 0 48 (show Env.ev E (.tmp 5) = _ from g5.trans rfl))) ?_
  refine .cons (fun E hA_ => by have g44 : E.get 44 = (pB false) := (hA_.get 44 (by kernel_rfl)).trans (by kernel_rfl); have g48 : E.get 48 = (.one (.ptr 5 10)) := (hA_.get 48 (by kernel_rfl)).trans (by kernel_rfl); have b5 : E.box 5 = some (56, [cI (rdHead l b s).2.f0, cI (rdHead l b s).2.f1, cI (rdHead l b s).2.f2, .row 7010 [], .row 8010 [], cI (rdHead l b s).2.f5.f0, cI (rdHead l b s).2.f5.f1, .row 11010 [], .row 12010 [], .row 13010 [], .row 100510 []]) := (hA_.box 5 (by kernel_rfl)).trans (by kernel_rfl); exact OpStep.yes (t := 44) rfl rfl (lt_ok rfl) g44 (Step.load_box (c := .row 100510 []) (t := 49) rfl rfl (by exact lt_ok rfl) (by kernel_rfl) (show Env.ev E (.tmp 48) = _ from g48.trans rfl) b5 rfl)) ?_
  refine .cons (fun E hA_ => by have g44 : E.get 44 = (pB false) := (hA_.get 44 (by kernel_rfl)).trans (by kernel_rfl); have g49 : E.get 49 = (.one (.row 100510 [])) := (hA_.get 49 (by kernel_rfl)).trans (by kernel_rfl); have q100510 : E.row 100510 = some (24, (.bss ts)) := (hA_.row 100510 (by kernel_rfl)).trans (by kernel_rfl); exact OpStep.yes (t := 44) rfl rfl (lt_ok rfl) g44 (Step.call (f := 119) (xs := [.tmp 49]) (ps := [(.one (.row 100510 []))]) false (g := .func 119) (t := 50) rfl rfl (by exact lt_ok rfl) rfl (by kernel_rfl) (evs_cons (show Env.ev E (.tmp 49) = _ from g49.trans rfl) (rfl)) (.cons (.one (.row rfl q100510 rfl rfl)) .nil) (ok_impl_TreeRoot ts (by first | assumption | exact mem_sub (by assumption) _ _ | exact s0.2 | exact o1) (by first | assumption | exact mem_sub (by assumption) _ _ | exact s0.2 | exact s1.2)) (.inr rfl) (freshRows_of _ _ (fun x_ hx_ => hA_.fresh x_ (by exact hx_))) (fun x hx => by have := hp x hx; omega) rfl)) ?_
  refine .cons (fun E hA_ => by have g44 : E.get 44 = (pB false) := (hA_.get 44 (by kernel_rfl)).trans (by kernel_rfl); have g47 : E.get 47 = (.one (.row 8010 [])) := (hA_.get 47 (by kernel_rfl)).trans (by kernel_rfl); have g50 : E.get 50 = (.one (.row 1050 [])) := (hA_.get 50 (by kernel_rfl)).trans (by kernel_rfl); have q1050 : E.row 1050 = some (5, (.ints .u8 (treeRoot ts))) := (hA_.row 1050 (by kernel_rfl)).trans (by kernel_rfl); have q8010 : E.row 8010 = some (5, (.ints .u8 (rdHead l b s).2.f4)) := (hA_.row 8010 (by kernel_rfl)).trans (by kernel_rfl); exact OpStep.yes (t := 44) rfl rfl (lt_ok rfl) g44 (Step.call (f := 107) (xs := [.tmp 47, .tmp 50]) (ps := [(.one (.row 8010 [])), (.one (.row 1050 []))]) false (g := .func 107) (t := 51) rfl rfl (by exact lt_ok rfl) rfl (by kernel_rfl) (evs_cons (show Env.ev E (.tmp 47) = _ from g47.trans rfl) (evs_cons (show Env.ev E (.tmp 50) = _ from g50.trans rfl) (rfl))) (.cons (.one (.row rfl q8010 rfl rfl)) (.cons (.one (.row rfl q1050 rfl rfl)) .nil)) (ok_impl_SameBytes (rdHead l b s).2.f4 (treeRoot ts) (by first | assumption | omega | exact treeRoot_u8 _) (by first | assumption | omega | exact treeRoot_u8 _)) (.inr rfl) (freshRows_of _ _ (fun x_ hx_ => hA_.fresh x_ (by exact hx_))) (fun x hx => by have := hp x hx; omega) rfl)) ?_
  refine .cons (fun E hA_ => by have g44 : E.get 44 = (pB false) := (hA_.get 44 (by kernel_rfl)).trans (by kernel_rfl); have g51 : E.get 51 = (pB (decide ((rdHead l b s).2.f4 = (treeRoot ts)))) := (hA_.get 51 (by kernel_rfl)).trans (by kernel_rfl); exact OpStep.plain rfl (Step.pick (b := false) (p := (pB (decide ((rdHead l b s).2.f4 = (treeRoot ts))))) (t := 52) rfl rfl (by exact lt_ok rfl) (show Env.ev E (.tmp 44) = _ from g44.trans rfl) (show Env.ev E (.tmp 51) = _ from g51.trans rfl))) ?_
  refine .cons (fun E hA_ => by have g38 : E.get 38 = (.one (.ptr 800 0)) := (hA_.get 38 (by kernel_rfl)).trans (by kernel_rfl); have g52 : E.get 52 = (pB (decide ((rdHead l b s).2.f4 = (treeRoot ts)))) := (hA_.get 52 (by kernel_rfl)).trans (by kernel_rfl); have b800 : E.box 800 = some (144, [cS b, cI q.f0, cI q.f1]) := (hA_.box 800 (by kernel_rfl)).trans (by kernel_rfl); exact OpStep.plain rfl (Step.callXX2 (b := 800) (xs := [.tmp 38, .tmp 52, .const (.int .i64 7)]) (ps := [(.one (.ptr 800 0)), (pB (decide ((rdHead l b s).2.f4 = (treeRoot ts)))), (pI 7)]) (bps := [cS b, cI q.f0, cI q.f1]) (ss := []) (g := .func 142) (t := 53) (ok_impl_reader__must b q (decide ((rdHead l b s).2.f4 = (treeRoot ts))) 7 (by assumption) (by first | omega | assumption | (simp only [List.length_append] at *; omega))) rfl rfl (by exact lt_ok rfl) rfl (by kernel_rfl) (evs_cons (show Env.ev E (.tmp 38) = _ from g38.trans rfl) (evs_cons (show Env.ev E (.tmp 52) = _ from g52.trans rfl) (evs_cons rfl (rfl)))) (.cons (.bx) (.cons (.rd (.one (.d _))) (.cons (.rd (.one (.d _))) .nil))) b800 (.rd (.rd (.rd .nil))) rfl (handX_fresh (fun x_ hx_ => hA_.fresh x_ (by exact hx_))) (fun x hx => by have := hp x hx; omega) rfl (by simp [rowsOf, rid]))) ?_
  exact .nil _ _
 refine TL.wk [(4, (.one (.ptr 4 0))), (5, (.one (.ptr 5 0)))] [(7010, (5, (.ints .u8 (rdHead l b s).2.f3))), (8010, (5, (.ints .u8 (rdHead l b s).2.f4))), (11010, (5, (.ints .u8 (rdHead l b s).2.f5.f2))), (12010, (5, (.ints .u8 (rdHead l b s).2.f5.f3))), (13010, (24, (.bss (rdHead l b s).2.f5.f4))), (100510, (24, (.bss ts))), (1050, (5, (.ints .u8 (treeRoot ts))))] [(800, (144, [cS b, cI (rdMust q (decide ((rdHead l b s).2.f4 = (treeRoot ts))) 7).f0, cI (rdMust q (decide ((rdHead l b s).2.f4 = (treeRoot ts))) 7).f1])), (2, (34, [cI l.f0, cI l.f1, cI l.f2, cI l.f3, cI l.f4])), (4, (56, [cI 0, cI 0, cI 0, .nil, .nil, cI 0, cI 0, .nil, .nil, .nil, .nil])), (5, (56, [cI (rdHead l b s).2.f0, cI (rdHead l b s).2.f1, cI (rdHead l b s).2.f2, .row 7010 [], .row 8010 [], cI (rdHead l b s).2.f5.f0, cI (rdHead l b s).2.f5.f1, .row 11010 [], .row 12010 [], .row 13010 [], .row 100510 []]))] ?_
 refine TL.nil ?_
 refine T.seq ?_
 refine T.region ?_
 refine TL.c (Step.lba 11 [cI (rdHead l b s).2.f0, cI (rdHead l b s).2.f1, cI (rdHead l b s).2.f2, .row 7010 [], .row 8010 [], cI (rdHead l b s).2.f5.f0, cI (rdHead l b s).2.f5.f1, .row 11010 [], .row 12010 [], .row 13010 [], .row 100510 []]) ?_
 refine TL.c (Step.sb 11 [cI (rdHead l b s).2.f0, cI (rdHead l b s).2.f1, cI (rdHead l b s).2.f2, .row 7010 [], .row 8010 [], cI (rdHead l b s).2.f5.f0, cI (rdHead l b s).2.f5.f1, .row 11010 [], .row 12010 [], .row 13010 [], .row 100510 []]) ?_
 refine TL.nil ?_
 refine T.ret ?_
 refine ⟨[cS b, cI (rdMust q (decide ((rdHead l b s).2.f4 = (treeRoot ts))) 7).f0, cI (rdMust q (decide ((rdHead l b s).2.f4 = (treeRoot ts))) 7).f1], [(true, [cI (rdHead l b s).2.f0, cI (rdHead l b s).2.f1, cI (rdHead l b s).2.f2, .row 7010 [], .row 8010 [], cI (rdHead l b s).2.f5.f0, cI (rdHead l b s).2.f5.f1, .row 11010 [], .row 12010 [], .row 13010 [], .row 100510 []])], rfl, rfl, (.cons rfl .nil), rfl, [7010, 8010, 11010, 12010, 13010, 100510], (RetC.r rfl (RetC.r ?_ (RetC.r ?_ (RetC.r ?_ (RetC.r ?_ (RetC.r ?_ (RetC.o ?_ (RetC.o ?_ (RetC.r ?_ (RetC.r ?_ (RetC.o ?_ (RetC.o ?_ (RetC.o ?_ (RetC.o ?_ .nil))))))))))))))⟩ <;> (first | rfl | (congr 1; first | (rw [rdBlock_ok (rdB_out hx4 (by omega)) (by omega)]; first | done | rfl) | (rw [rdBlock_no (rdB_out hx4 (by omega)) (by omega)]; first | done | rfl | (rw [rdMust_ok rfl]; first | done | rfl))) | (simp only [D.size, List.length_map]; first | (rw [rdBlock_ok (rdB_out hx4 (by omega)) (by omega)]; first | done | rfl) | (rw [rdBlock_no (rdB_out hx4 (by omega)) (by omega)]; first | done | rfl)))
theorem ok_impl_LimitsOk (l : SLimits) : RO Try.prog 135 [.agg l.cells] [(false, [.rd (.bool (limOk l))])] := by
 refine RO.intro Try.func135 rfl 26 rfl (le_ok rfl) fun w Z => ?_
 refine T.seq ?_
 refine T.region ?_
 refine TL.c (Step.bx [cI l.f0, cI l.f1, cI l.f2, cI l.f3, cI l.f4]) ?_
 refine TL.as (pB false) ?_
 refine TL.nil ?_
 refine T.seq ?_
 refine T.region ?_
 refine TL.c (Step.fd 0 1 true) ?_
 refine TL.c (Step.lb (.d (.int .i64 l.f0))) ?_
 refine TL.c (Step.cl (xs := [.tmp 4, .const (.int .i64 1), .const (.int .i64 10)]) (ps := [(pI l.f0), (pI 1), (pI 10)]) (g := .func 117) false (.cons (.one (.d _)) (.cons (.one (.d _)) (.cons (.one (.d _)) .nil))) (ok_impl_within l.f0 1 10)) ?_
 refine TL.mv (pB (decide (1 ≤ l.f0 ∧ l.f0 ≤ 10))) ?_
 rcases Bool.eq_false_or_eq_true (decide (1 ≤ l.f0 ∧ l.f0 ≤ 10)) with hb1 | hb1
 ·
  refine TL.known 6 hb1 rfl ?_
  refine TL.gy 6 (Step.fd 1 1 true) ?_
  refine TL.gy 6 (Step.lb (.d (.int .i64 l.f1))) ?_
  refine TL.gy 6 (Step.cl (xs := [.tmp 8, .const (.int .i64 0), .const (.int .i64 40)]) (ps := [(pI l.f1), (pI 0), (pI 40)]) (g := .func 117) false (.cons (.one (.d _)) (.cons (.one (.d _)) (.cons (.one (.d _)) .nil))) (ok_impl_within l.f1 0 40)) ?_
  refine TL.pk true (pB (decide (0 ≤ l.f1 ∧ l.f1 ≤ 40))) ?_
  refine TL.mv (pB (decide (0 ≤ l.f1 ∧ l.f1 ≤ 40))) ?_
  rcases Bool.eq_false_or_eq_true (decide (0 ≤ l.f1 ∧ l.f1 ≤ 40)) with hb2 | hb2
  ·
   refine TL.known 11 hb2 rfl ?_
   refine TL.gy 11 (Step.fd 2 1 true) ?_
   refine TL.gy 11 (Step.lb (.d (.int .i64 l.f2))) ?_
   refine TL.gy 11 (Step.cl (xs := [.tmp 13, .const (.int .i64 0), .const (.int .i64 8)]) (ps := [(pI l.f2), (pI 0), (pI 8)]) (g := .func 117) false (.cons (.one (.d _)) (.cons (.one (.d _)) (.cons (.one (.d _)) .nil))) (ok_impl_within l.f2 0 8)) ?_
   refine TL.pk true (pB (decide (0 ≤ l.f2 ∧ l.f2 ≤ 8))) ?_
   refine TL.mv (pB (decide (0 ≤ l.f2 ∧ l.f2 ≤ 8))) ?_
   rcases Bool.eq_false_or_eq_true (decide (0 ≤ l.f2 ∧ l.f2 ≤ 8)) with hb3 | hb3
   ·
    refine TL.known 16 hb3 rfl ?_
    refine TL.gy 16 (Step.fd 3 1 true) ?_
    refine TL.gy 16 (Step.lb (.d (.int .i64 l.f3))) ?_
    refine TL.gy 16 (Step.cl (xs := [.tmp 18, .const (.int .i64 1), .const (.int .i64 4000)]) (ps := [(pI l.f3), (pI 1), (pI 4000)]) (g := .func 117) false (.cons (.one (.d _)) (.cons (.one (.d _)) (.cons (.one (.d _)) .nil))) (ok_impl_within l.f3 1 4000)) ?_
    refine TL.pk true (pB (decide (1 ≤ l.f3 ∧ l.f3 ≤ 4000))) ?_
    refine TL.mv (pB (decide (1 ≤ l.f3 ∧ l.f3 ≤ 4000))) ?_
    rcases Bool.eq_false_or_eq_true (decide (1 ≤ l.f3 ∧ l.f3 ≤ 4000)) with hb4 | hb4
    ·
     refine TL.known 21 hb4 rfl ?_
     refine TL.gy 21 (Step.fd 4 1 true) ?_
     refine TL.gy 21 (Step.lb (.d (.int .i64 l.f4))) ?_
     refine TL.gy 21 (Step.cl (xs := [.tmp 23, .const (.int .i64 3), .const (.int .i64 5)]) (ps := [(pI l.f4), (pI 3), (pI 5)]) (g := .func 117) false (.cons (.one (.d _)) (.cons (.one (.d _)) (.cons (.one (.d _)) .nil))) (ok_impl_within l.f4 3 5)) ?_
     refine TL.pk true (pB (decide (3 ≤ l.f4 ∧ l.f4 ≤ 5))) ?_
     refine TL.as (pB (decide (3 ≤ l.f4 ∧ l.f4 ≤ 5))) ?_
     refine TL.nil ?_
     refine T.ret ?_
     refine ⟨[(false, [.d (.bool (decide (3 ≤ l.f4 ∧ l.f4 ≤ 5)))])], (.cons rfl .nil), rfl, [], (RetC.r ?_ .nil)⟩ <;> (first | rfl | (congr 1; symm; simp only [limOk, *, Bool.and_true, Bool.true_and, Bool.and_false, Bool.false_and, decide_true, decide_false, and_true, true_and, and_self, and_false, false_and, Bool.and_self, not_true, not_false, Bool.not_true, Bool.not_false, ge_iff_le, gt_iff_lt, if_true, if_false, Bool.false_eq_true, ite_true, ite_false, reduceIte]; done) | (congr 1; symm; simp_all [limOk]; done) | (congr 1; symm; simp_all [limOk]; omega))
    refine TL.known 21 hb4 rfl ?_
    refine TL.gf 21 ?_
    refine TL.gf 21 ?_
    refine TL.gf 21 ?_
    refine TL.pk false (pB false) ?_
    refine TL.as (pB false) ?_
    refine TL.nil ?_
    refine T.ret ?_
    refine ⟨[(false, [.d (.bool false)])], (.cons rfl .nil), rfl, [], (RetC.r ?_ .nil)⟩ <;> (first | rfl | (congr 1; symm; simp only [limOk, *, Bool.and_true, Bool.true_and, Bool.and_false, Bool.false_and, decide_true, decide_false, and_true, true_and, and_self, and_false, false_and, Bool.and_self, not_true, not_false, Bool.not_true, Bool.not_false, ge_iff_le, gt_iff_lt, if_true, if_false, Bool.false_eq_true, ite_true, ite_false, reduceIte]; done) | (congr 1; symm; simp_all [limOk]; done) | (congr 1; symm; simp_all [limOk]; omega))
   refine TL.known 16 hb3 rfl ?_
   refine TL.gf 16 ?_
   refine TL.gf 16 ?_
   refine TL.gf 16 ?_
   refine TL.pk false (pB false) ?_
   refine TL.mv (pB false) ?_
   refine TL.gf 21 ?_
   refine TL.gf 21 ?_
   refine TL.gf 21 ?_
   refine TL.pk false (pB false) ?_
   refine TL.as (pB false) ?_
   refine TL.nil ?_
   refine T.ret ?_
   refine ⟨[(false, [.d (.bool false)])], (.cons rfl .nil), rfl, [], (RetC.r ?_ .nil)⟩ <;> (first | rfl | (congr 1; symm; simp only [limOk, *, Bool.and_true, Bool.true_and, Bool.and_false, Bool.false_and, decide_true, decide_false, and_true, true_and, and_self, and_false, false_and, Bool.and_self, not_true, not_false, Bool.not_true, Bool.not_false, ge_iff_le, gt_iff_lt, if_true, if_false, Bool.false_eq_true, ite_true, ite_false, reduceIte]; done) | (congr 1; symm; simp_all [limOk]; done) | (congr 1; symm; simp_all [limOk]; omega))
  refine TL.known 11 hb2 rfl ?_
  refine TL.gf 11 ?_
  refine TL.gf 11 ?_
  refine TL.gf 11 ?_
  refine TL.pk false (pB false) ?_
  refine TL.mv (pB false) ?_
  refine TL.gf 16 ?_
  refine TL.gf 16 ?_
  refine TL.gf 16 ?_
  refine TL.pk false (pB false) ?_
  refine TL.mv (pB false) ?_
  refine TL.gf 21 ?_
  refine TL.gf 21 ?_
  refine TL.gf 21 ?_
  refine TL.pk false (pB false) ?_
  refine TL.as (pB false) ?_
  refine TL.nil ?_
  refine T.ret ?_
  refine ⟨[(false, [.d (.bool false)])], (.cons rfl .nil), rfl, [], (RetC.r ?_ .nil)⟩ <;> (first | rfl | (congr 1; symm; simp only [limOk, *, Bool.and_true, Bool.true_and, Bool.and_false, Bool.false_and, decide_true, decide_false, and_true, true_and, and_self, and_false, false_and, Bool.and_self, not_true, not_false, Bool.not_true, Bool.not_false, ge_iff_le, gt_iff_lt, if_true, if_false, Bool.false_eq_true, ite_true, ite_false, reduceIte]; done) | (congr 1; symm; simp_all [limOk]; done) | (congr 1; symm; simp_all [limOk]; omega))
 refine TL.known 6 hb1 rfl ?_
 refine TL.gf 6 ?_
 refine TL.gf 6 ?_
 refine TL.gf 6 ?_
 refine TL.pk false (pB false) ?_
 refine TL.mv (pB false) ?_
 refine TL.gf 11 ?_
 refine TL.gf 11 ?_
 refine TL.gf 11 ?_
 refine TL.pk false (pB false) ?_
 refine TL.mv (pB false) ?_
 refine TL.gf 16 ?_
 refine TL.gf 16 ?_
 refine TL.gf 16 ?_
 refine TL.pk false (pB false) ?_
 refine TL.mv (pB false) ?_
 refine TL.gf 21 ?_
 refine TL.gf 21 ?_
 refine TL.gf 21 ?_
 refine TL.pk false (pB false) ?_
 refine TL.as (pB false) ?_
 refine TL.nil ?_
 refine T.ret ?_
 refine ⟨[(false, [.d (.bool false)])], (.cons rfl .nil), rfl, [], (RetC.r ?_ .nil)⟩ <;> (first | rfl | (congr 1; symm; simp only [limOk, *, Bool.and_true, Bool.true_and, Bool.and_false, Bool.false_and, decide_true, decide_false, and_true, true_and, and_self, and_false, false_and, Bool.and_self, not_true, not_false, Bool.not_true, Bool.not_false, ge_iff_le, gt_iff_lt, if_true, if_false, Bool.false_eq_true, ite_true, ite_false, reduceIte]; done) | (congr 1; symm; simp_all [limOk]; done) | (congr 1; symm; simp_all [limOk]; omega))
theorem ok_impl_Block_ (l : SLimits) (b : List Int) (a : Int) (h0_ : U8s b) (h1_ : b.length ≤ 1048576) : RO Try.prog 98 [.agg l.cells, .one (.ints .u8 b), .one (.int .i64 a), .one (.fn 99)] [(true, [.rd (.int .i64 (getBlock l b a).1.f0.f0), .rd (.int .i64 (getBlock l b a).1.f0.f1), .rd (.int .i64 (getBlock l b a).1.f0.f2), .own 5 (.ints .u8 (getBlock l b a).1.f0.f3), .own 5 (.ints .u8 (getBlock l b a).1.f0.f4), .rd (.int .i64 (getBlock l b a).1.f0.f5.f0), .rd (.int .i64 (getBlock l b a).1.f0.f5.f1), .own 5 (.ints .u8 (getBlock l b a).1.f0.f5.f2), .own 5 (.ints .u8 (getBlock l b a).1.f0.f5.f3), .own 24 (.bss (getBlock l b a).1.f0.f5.f4), .own 24 (.bss (getBlock l b a).1.f1)]), (false, [.rd (.int .i64 (getBlock l b a).2.1)]), (false, [.rd (.int .i64 (getBlock l b a).2.2)])] := by
 refine RO.intro Try.func98 rfl 41 rfl (le_ok rfl) fun w Z => ?_
 refine T.bnd 1 0 rfl rfl fun hb_1_0 => ?_
 simp only [D.size, List.length_map] at hb_1_0
 refine T.seq ?_
 refine T.region ?_
 refine TL.c (Step.bx [cI l.f0, cI l.f1, cI l.f2, cI l.f3, cI l.f4]) ?_
 refine TL.c (Step.al [cI 0, cI 0, cI 0, .nil, .nil, cI 0, cI 0, .nil, .nil, .nil, .nil]) ?_
 refine TL.as (pI 0) ?_
 refine TL.as (pI 0) ?_
 refine TL.nil ?_
 refine T.seq ?_
 refine T.region ?_
 refine TL.c (Step.al [cI 0, cI 0, cI 0, .nil, .nil, cI 0, cI 0, .nil, .nil, .nil, .nil]) ?_
 refine TL.nil ?_
 refine T.seq ?_
 refine T.seq ?_
 refine T.region ?_
 refine TL.c (Step.lba 5 [cI l.f0, cI l.f1, cI l.f2, cI l.f3, cI l.f4]) ?_
 refine TL.c (Step.cl (xs := [.tmp 14]) (ps := [(.agg [cI l.f0, cI l.f1, cI l.f2, cI l.f3, cI l.f4])]) (g := .func 135) false (.cons (.agg (.cons (.d _) (.cons (.d _) (.cons (.d _) (.cons (.d _) (.cons (.d _) .nil)))))) .nil) (ok_impl_LimitsOk l)) ?_
 refine TL.c (Step.not (b := (limOk l)) rfl rfl (lt_ok rfl) rfl) ?_
 refine TL.nil ?_
 refine T.cn rfl (fun h1 => ?_) (fun h1 => ?_)
 ·
  refine T.seq ?_
  refine T.region ?_
  refine TL.c (Step.lba 11 [cI 0, cI 0, cI 0, .nil, .nil, cI 0, cI 0, .nil, .nil, .nil, .nil]) ?_
  refine TL.c (Step.sb 11 [cI 0, cI 0, cI 0, .nil, .nil, cI 0, cI 0, .nil, .nil, .nil, .nil]) ?_
  refine TL.as (pI 0) ?_
  refine TL.as (pI 5) ?_
  refine TL.nil ?_
  refine T.ret ?_
  refine ⟨[(true, [cI 0, cI 0, cI 0, .nil, .nil, cI 0, cI 0, .nil, .nil, .nil, .nil]), (false, [cI 0]), (false, [cI 5])], (.cons rfl (.cons rfl (.cons rfl .nil))), rfl, [], (RetC.r ?_ (RetC.r ?_ (RetC.r ?_ (RetC.nn ?_ (RetC.nn ?_ (RetC.r ?_ (RetC.r ?_ (RetC.nn ?_ (RetC.nn ?_ (RetC.nn ?_ (RetC.nn ?_ (RetC.r ?_ (RetC.r ?_ .nil)))))))))))))⟩ <;> (first | rfl | (congr 1; unfold getBlock; first | (rw [getOut_yes (by assumption)]; first | done | rfl) | (rw [getOut_no (by assumption)]; first | done | rfl) | (rw [rs0_ok (by assumption), getOut_yes (by assumption)]; first | done | rfl) | (rw [rs0_ok (by assumption), getOut_no (by assumption)]; first | done | rfl) | (rw [rs0_no (by assumption), getOut_nr (rdBlock_er (show ¬ ((5 : Int) = 0) by decide)) rfl]; first | done | rfl)) | (simp only [D.size, List.length_map]; unfold getBlock; first | (rw [getOut_yes (by assumption)]; first | done | rfl) | (rw [getOut_no (by assumption)]; first | done | rfl) | (rw [rs0_ok (by assumption), getOut_yes (by assumption)]; first | done | rfl) | (rw [rs0_ok (by assumption), getOut_no (by assumption)]; first | done | rfl) | (rw [rs0_no (by assumption), getOut_nr (rdBlock_er (show ¬ ((5 : Int) = 0) by decide)) rfl]; first | done | rfl)))
 refine T.skip ?_
 refine T.seq ?_
 refine T.region ?_
 refine TL.mv (pS b) ?_
 refine TL.mv (pI a) ?_
 refine TL.c (Step.build (zs := [.slice none 0 0, .int .i64 0, .int .i64 0]) (places := [(0, 1), (1, 1), (2, 1)]) (pss := [(0, [cS b]), (1, [cI a])]) (ps' := [cS b, cI a, cI 0]) rfl rfl (lt_ok rfl) (by kernel_rfl) (.cons ⟨rfl, rfl⟩ (.cons ⟨rfl, rfl⟩ .nil)) rfl rfl rfl) ?_
 refine TL.c (Step.bx [cS b, cI a, cI 0]) ?_
 refine TL.as (.one (.ptr 21 0)) ?_
 refine TL.nil ?_
 refine T.seq ?_
 refine T.region ?_
 refine TL.mv (.one (.d (.fn 99))) ?_
 refine TL.c (Step.lba 5 [cI l.f0, cI l.f1, cI l.f2, cI l.f3, cI l.f4]) ?_
 refine TL.mv (.one (.ptr 21 0)) ?_
 have nn2 := @rdBlock_sm l b (⟨a, 0⟩ : SRS) (by first | assumption | omega) (by first | assumption | exact rs0_zb | exact fun _ => by assumption)
 refine TL.c (Step.callX2 (b := 21) (xs := [.tmp 23, .tmp 24]) (ps := [(.agg [cI l.f0, cI l.f1, cI l.f2, cI l.f3, cI l.f4]), (.one (.ptr 21 0))]) (bps := [cS b, cI a, cI 0]) (ss := []) (g := .tmp 22) (ok_impl_readBlock b (⟨a, 0⟩ : SRS) l (by assumption) (by first | omega | assumption | (simp only [List.length_append] at *; omega)) (by assumption)) rfl rfl (lt_ok rfl) rfl (by kernel_rfl) rfl (.cons (.rd (.agg (.cons (.d _) (.cons (.d _) (.cons (.d _) (.cons (.d _) (.cons (.d _) .nil))))))) (.cons (.bx) .nil)) rfl (.rd (.rd (.rd .nil))) rfl rfl (by simp) rfl) ?_
 refine TL.c (Step.al [cI 0, cI 0, cI 0, .nil, .nil, cI 0, cI 0, .nil, .nil, .nil, .nil]) ?_
 refine TL.c (Step.sb 11 [cI (rdBlock l b (⟨a, 0⟩ : SRS)).2.f0.f0, cI (rdBlock l b (⟨a, 0⟩ : SRS)).2.f0.f1, cI (rdBlock l b (⟨a, 0⟩ : SRS)).2.f0.f2, .row 7025 [], .row 8025 [], cI (rdBlock l b (⟨a, 0⟩ : SRS)).2.f0.f5.f0, cI (rdBlock l b (⟨a, 0⟩ : SRS)).2.f0.f5.f1, .row 11025 [], .row 12025 [], .row 13025 [], .row 14025 []]) ?_
 refine TL.nil ?_
 refine T.seq ?_
 refine T.seq ?_
 refine T.region ?_
 refine TL.mv (.one (.ptr 21 0)) ?_
 refine TL.c (Step.nilCheck rfl rfl (lt_ok rfl) rfl) ?_
 refine TL.c (Step.fd 2 1 true) ?_
 refine TL.c (Step.lb (.d (.int .i64 (rdBlock l b (⟨a, 0⟩ : SRS)).1.f1))) ?_
 refine TL.b _ (Bin.neq (k := .i64) (a := (rdBlock l b (⟨a, 0⟩ : SRS)).1.f1) (b := 0)) ?_
 refine TL.nil ?_
 refine T.ci rfl (fun h3 => ?_) (fun h3 => ?_)
 ·
  refine T.seq ?_
  refine T.drawX [{ dst := some 31, pv := (.agg [cI 0, cI 0, cI 0, .nil, .nil, cI 0, cI 0, .nil, .nil, .nil, .nil]) }, { dst := some 32, pv := (.one (.ptr 21 0)) }, { dst := some 33, pv := (.one (.ptr 21 0)) }, { dst := some 34, pv := (.one (.ptr 21 2)) }, { dst := some 35, pv := (pI (rdBlock l b (⟨a, 0⟩ : SRS)).1.f1) }, { box := some (8, (56, [cI 0, cI 0, cI 0, .nil, .nil, cI 0, cI 0, .nil, .nil, .nil, .nil])) }, { dst := some 9, pv := (pI 0) }, { dst := some 10, pv := (pI (rdBlock l b (⟨a, 0⟩ : SRS)).1.f1) }] (by kernel_rfl) (by kernel_rfl) ?_ ?_
  ·
   refine .cons (fun E hA_ => by have g11 : E.get 11 = (.one (.ptr 11 0)) := (hA_.get 11 (by kernel_rfl)).trans (by kernel_rfl); have b11 : E.box 11 = some (56, [cI 0, cI 0, cI 0, .nil, .nil, cI 0, cI 0, .nil, .nil, .nil, .nil]) := (hA_.box 11 (by kernel_rfl)).trans (by kernel_rfl); exact OpStep.plain rfl (Step.load_box_agg (n := 11) (qs := [cI 0, cI 0, cI 0, .nil, .nil, cI 0, cI 0, .nil, .nil, .nil, .nil]) (t := 31) rfl rfl (by exact lt_ok rfl) (by kernel_rfl) (show Env.ev E (.tmp 11) = _ from g11.trans rfl) b11 rfl rfl)) ?_
   refine .cons (fun E hA_ => by have g12 : E.get 12 = (.one (.ptr 21 0)) := (hA_.get 12 (by kernel_rfl)).trans (by kernel_rfl); exact OpStep.plain rfl (Step.move (p := (.one (.ptr 21 0))) (t := 32) rfl rfl (by exact lt_ok rfl) (show Env.ev E (.tmp 12) = _ from g12.trans rfl))) ?_
   refine .cons (fun E hA_ => by have g32 : E.get 32 = (.one (.ptr 21 0)) := (hA_.get 32 (by kernel_rfl)).trans (by kernel_rfl); exact OpStep.plain rfl (Step.nilCheck (t := 33) rfl rfl (by exact lt_ok rfl) (show Env.ev E (.tmp 32) = _ from g32.trans rfl))) ?_
   refine .cons (fun E hA_ => by have g33 : E.get 33 = (.one (.ptr 21 0)) := (hA_.get 33 (by kernel_rfl)).trans (by kernel_rfl); exact OpStep.plain rfl (Step.fa (off := 2) (n := 1) (one := true) 0 34 (show Env.ev E (.tmp 33) = _ from g33.trans rfl))) ?_
   refine .cons (fun E hA_ => by have g34 : E.get 34 = (.one (.ptr 21 2)) := (hA_.get 34 (by kernel_rfl)).trans (by kernel_rfl); have b21 : E.box 21 = some (144, [cS b, cI (rdBlock l b (⟨a, 0⟩ : SRS)).1.f0, cI (rdBlock l b (⟨a, 0⟩ : SRS)).1.f1]) := (hA_.box 21 (by kernel_rfl)).trans (by kernel_rfl); exact OpStep.plain rfl (Step.load_box (c := cI (rdBlock l b (⟨a, 0⟩ : SRS)).1.f1) (t := 35) rfl rfl (by exact lt_ok rfl) (by kernel_rfl) (show Env.ev E (.tmp 34) = _ from g34.trans rfl) b21 rfl)) ?_
   refine .cons (fun E hA_ => by have g8 : E.get 8 = (.one (.ptr 8 0)) := (hA_.get 8 (by kernel_rfl)).trans (by kernel_rfl); have g31 : E.get 31 = (.agg [cI 0, cI 0, cI 0, .nil, .nil, cI 0, cI 0, .nil, .nil, .nil, .nil]) := (hA_.get 31 (by kernel_rfl)).trans (by kernel_rfl); have b8 : E.box 8 = some (56, [cI 0, cI 0, cI 0, .nil, .nil, cI 0, cI 0, .nil, .nil, .nil, .nil]) := (hA_.box 8 (by kernel_rfl)).trans (by kernel_rfl); exact OpStep.plain rfl (Step.store_box (n := 11) (p := (.agg [cI 0, cI 0, cI 0, .nil, .nil, cI 0, cI 0, .nil, .nil, .nil, .nil])) (qs := [cI 0, cI 0, cI 0, .nil, .nil, cI 0, cI 0, .nil, .nil, .nil, .nil]) (ps' := [cI 0, cI 0, cI 0, .nil, .nil, cI 0, cI 0, .nil, .nil, .nil, .nil]) rfl rfl (by kernel_rfl) (show Env.ev E (.tmp 8) = _ from g8.trans rfl) b8 (show Env.ev E (.tmp 31) = _ from g31.trans rfl) rfl rfl rfl (le_ok rfl) rfl)) ?_
   refine .cons (fun E hA_ => by exact OpStep.plain rfl (Step.assign (p := (pI 0)) (t := 9) rfl rfl (by exact lt_ok rfl) rfl)) ?_
   refine .cons (fun E hA_ => by have g35 : E.get 35 = (pI (rdBlock l b (⟨a, 0⟩ : SRS)).1.f1) := (hA_.get 35 (by kernel_rfl)).trans (by kernel_rfl); exact OpStep.plain rfl (Step.assign (p := (pI (rdBlock l b (⟨a, 0⟩ : SRS)).1.f1)) (t := 10) rfl rfl (by exact lt_ok rfl) (show Env.ev E (.tmp 35) = _ from g35.trans rfl))) ?_
   exact .nil _ _
  refine TL.wk [(8, (.one (.ptr 8 0))), (9, (pI 0)), (10, (pI (rdBlock l b (⟨a, 0⟩ : SRS)).1.f1)), (12, (.one (.ptr 21 0))), (13, (.one (.ptr 13 0)))] [(7025, (5, (.ints .u8 (rdBlock l b (⟨a, 0⟩ : SRS)).2.f0.f3))), (8025, (5, (.ints .u8 (rdBlock l b (⟨a, 0⟩ : SRS)).2.f0.f4))), (11025, (5, (.ints .u8 (rdBlock l b (⟨a, 0⟩ : SRS)).2.f0.f5.f2))), (12025, (5, (.ints .u8 (rdBlock l b (⟨a, 0⟩ : SRS)).2.f0.f5.f3))), (13025, (24, (.bss (rdBlock l b (⟨a, 0⟩ : SRS)).2.f0.f5.f4))), (14025, (24, (.bss (rdBlock l b (⟨a, 0⟩ : SRS)).2.f1)))] [(4, (34, [cI l.f0, cI l.f1, cI l.f2, cI l.f3, cI l.f4])), (8, (56, [cI 0, cI 0, cI 0, .nil, .nil, cI 0, cI 0, .nil, .nil, .nil, .nil])), (11, (56, [cI 0, cI 0, cI 0, .nil, .nil, cI 0, cI 0, .nil, .nil, .nil, .nil])), (21, (144, [cS b, cI (rdBlock l b (⟨a, 0⟩ : SRS)).1.f0, cI (rdBlock l b (⟨a, 0⟩ : SRS)).1.f1])), (13, (56, [cI (rdBlock l b (⟨a, 0⟩ : SRS)).2.f0.f0, cI (rdBlock l b (⟨a, 0⟩ : SRS)).2.f0.f1, cI (rdBlock l b (⟨a, 0⟩ : SRS)).2.f0.f2, .row 7025 [], .row 8025 [], cI (rdBlock l b (⟨a, 0⟩ : SRS)).2.f0.f5.f0, cI (rdBlock l b (⟨a, 0⟩ : SRS)).2.f0.f5.f1, .row 11025 [], .row 12025 [], .row 13025 [], .row 14025 []]))] ?_
  refine TL.nil ?_
  refine T.ret ?_
  refine ⟨[(true, [cI 0, cI 0, cI 0, .nil, .nil, cI 0, cI 0, .nil, .nil, .nil, .nil]), (false, [cI 0]), (false, [cI (rdBlock l b (⟨a, 0⟩ : SRS)).1.f1])], (.cons rfl (.cons rfl (.cons rfl .nil))), rfl, [], (RetC.r ?_ (RetC.r ?_ (RetC.r ?_ (RetC.nn ?_ (RetC.nn ?_ (RetC.r ?_ (RetC.r ?_ (RetC.nn ?_ (RetC.nn ?_ (RetC.nn ?_ (RetC.nn ?_ (RetC.r ?_ (RetC.r ?_ .nil)))))))))))))⟩ <;> (first | rfl | (congr 1; unfold getBlock; first | (rw [getOut_yes (by assumption)]; first | done | rfl) | (rw [getOut_no (by assumption)]; first | done | rfl) | (rw [rs0_ok (by assumption), getOut_yes (by assumption)]; first | done | rfl) | (rw [rs0_ok (by assumption), getOut_no (by assumption)]; first | done | rfl) | (rw [rs0_no (by assumption), getOut_nr (rdBlock_er (show ¬ ((5 : Int) = 0) by decide)) rfl]; first | done | rfl)) | (simp only [D.size, List.length_map]; unfold getBlock; first | (rw [getOut_yes (by assumption)]; first | done | rfl) | (rw [getOut_no (by assumption)]; first | done | rfl) | (rw [rs0_ok (by assumption), getOut_yes (by assumption)]; first | done | rfl) | (rw [rs0_ok (by assumption), getOut_no (by assumption)]; first | done | rfl) | (rw [rs0_no (by assumption), getOut_nr (rdBlock_er (show ¬ ((5 : Int) = 0) by decide)) rfl]; first | done | rfl)))
 refine T.skip ?_
 refine T.seq ?_
 refine T.drawX [{ dst := some 36, pv := (.agg [cI (rdBlock l b (⟨a, 0⟩ : SRS)).2.f0.f0, cI (rdBlock l b (⟨a, 0⟩ : SRS)).2.f0.f1, cI (rdBlock l b (⟨a, 0⟩ : SRS)).2.f0.f2, .row 7025 [], .row 8025 [], cI (rdBlock l b (⟨a, 0⟩ : SRS)).2.f0.f5.f0, cI (rdBlock l b (⟨a, 0⟩ : SRS)).2.f0.f5.f1, .row 11025 [], .row 12025 [], .row 13025 [], .row 14025 []]) }, { dst := some 37, pv := (.one (.ptr 21 0)) }, { dst := some 38, pv := (.one (.ptr 21 0)) }, { dst := some 39, pv := (.one (.ptr 21 1)) }, { dst := some 40, pv := (pI (rdBlock l b (⟨a, 0⟩ : SRS)).1.f0) }, { box := some (8, (56, [cI (rdBlock l b (⟨a, 0⟩ : SRS)).2.f0.f0, cI (rdBlock l b (⟨a, 0⟩ : SRS)).2.f0.f1, cI (rdBlock l b (⟨a, 0⟩ : SRS)).2.f0.f2, .row 7025 [], .row 8025 [], cI (rdBlock l b (⟨a, 0⟩ : SRS)).2.f0.f5.f0, cI (rdBlock l b (⟨a, 0⟩ : SRS)).2.f0.f5.f1, .row 11025 [], .row 12025 [], .row 13025 [], .row 14025 []])) }, { dst := some 9, pv := (pI (rdBlock l b (⟨a, 0⟩ : SRS)).1.f0) }, { dst := some 10, pv := (pI 0) }] (by kernel_rfl) (by kernel_rfl) ?_ ?_
 ·
  refine .cons (fun E hA_ => by have g13 : E.get 13 = (.one (.ptr 13 0)) := (hA_.get 13 (by kernel_rfl)).trans (by kernel_rfl); have b13 : E.box 13 = some (56, [cI (rdBlock l b (⟨a, 0⟩ : SRS)).2.f0.f0, cI (rdBlock l b (⟨a, 0⟩ : SRS)).2.f0.f1, cI (rdBlock l b (⟨a, 0⟩ : SRS)).2.f0.f2, .row 7025 [], .row 8025 [], cI (rdBlock l b (⟨a, 0⟩ : SRS)).2.f0.f5.f0, cI (rdBlock l b (⟨a, 0⟩ : SRS)).2.f0.f5.f1, .row 11025 [], .row 12025 [], .row 13025 [], .row 14025 []]) := (hA_.box 13 (by kernel_rfl)).trans (by kernel_rfl); exact OpStep.plain rfl (Step.load_box_agg (n := 11) (qs := [cI (rdBlock l b (⟨a, 0⟩ : SRS)).2.f0.f0, cI (rdBlock l b (⟨a, 0⟩ : SRS)).2.f0.f1, cI (rdBlock l b (⟨a, 0⟩ : SRS)).2.f0.f2, .row 7025 [], .row 8025 [], cI (rdBlock l b (⟨a, 0⟩ : SRS)).2.f0.f5.f0, cI (rdBlock l b (⟨a, 0⟩ : SRS)).2.f0.f5.f1, .row 11025 [], .row 12025 [], .row 13025 [], .row 14025 []]) (t := 36) rfl rfl (by exact lt_ok rfl) (by kernel_rfl) (show Env.ev E (.tmp 13) = _ from g13.trans rfl) b13 rfl rfl)) ?_
  refine .cons (fun E hA_ => by have g12 : E.get 12 = (.one (.ptr 21 0)) := (hA_.get 12 (by kernel_rfl)).trans (by kernel_rfl); exact OpStep.plain rfl (Step.move (p := (.one (.ptr 21 0))) (t := 37) rfl rfl (by exact lt_ok rfl) (show Env.ev E (.tmp 12) = _ from g12.trans rfl))) ?_
  refine .cons (fun E hA_ => by have g37 : E.get 37 = (.one (.ptr 21 0)) := (hA_.get 37 (by kernel_rfl)).trans (by kernel_rfl); exact OpStep.plain rfl (Step.nilCheck (t := 38) rfl rfl (by exact lt_ok rfl) (show Env.ev E (.tmp 37) = _ from g37.trans rfl))) ?_
  refine .cons (fun E hA_ => by have g38 : E.get 38 = (.one (.ptr 21 0)) := (hA_.get 38 (by kernel_rfl)).trans (by kernel_rfl); exact OpStep.plain rfl (Step.fa (off := 1) (n := 1) (one := true) 0 39 (show Env.ev E (.tmp 38) = _ from g38.trans rfl))) ?_
  refine .cons (fun E hA_ => by have g39 : E.get 39 = (.one (.ptr 21 1)) := (hA_.get 39 (by kernel_rfl)).trans (by kernel_rfl); have b21 : E.box 21 = some (144, [cS b, cI (rdBlock l b (⟨a, 0⟩ : SRS)).1.f0, cI (rdBlock l b (⟨a, 0⟩ : SRS)).1.f1]) := (hA_.box 21 (by kernel_rfl)).trans (by kernel_rfl); exact OpStep.plain rfl (Step.load_box (c := cI (rdBlock l b (⟨a, 0⟩ : SRS)).1.f0) (t := 40) rfl rfl (by exact lt_ok rfl) (by kernel_rfl) (show Env.ev E (.tmp 39) = _ from g39.trans rfl) b21 rfl)) ?_
  refine .cons (fun E hA_ => by have g8 : E.get 8 = (.one (.ptr 8 0)) := (hA_.get 8 (by kernel_rfl)).trans (by kernel_rfl); have g36 : E.get 36 = (.agg [cI (rdBlock l b (⟨a, 0⟩ : SRS)).2.f0.f0, cI (rdBlock l b (⟨a, 0⟩ : SRS)).2.f0.f1, cI (rdBlock l b (⟨a, 0⟩ : SRS)).2.f0.f2, .row 7025 [], .row 8025 [], cI (rdBlock l b (⟨a, 0⟩ : SRS)).2.f0.f5.f0, cI (rdBlock l b (⟨a, 0⟩ : SRS)).2.f0.f5.f1, .row 11025 [], .row 12025 [], .row 13025 [], .row 14025 []]) := (hA_.get 36 (by kernel_rfl)).trans (by kernel_rfl); have q7025 : E.row 7025 = some (5, (.ints .u8 (rdBlock l b (⟨a, 0⟩ : SRS)).2.f0.f3)) := (hA_.row 7025 (by kernel_rfl)).trans (by kernel_rfl); have q8025 : E.row 8025 = some (5, (.ints .u8 (rdBlock l b (⟨a, 0⟩ : SRS)).2.f0.f4)) := (hA_.row 8025 (by kernel_rfl)).trans (by kernel_rfl); have q11025 : E.row 11025 = some (5, (.ints .u8 (rdBlock l b (⟨a, 0⟩ : SRS)).2.f0.f5.f2)) := (hA_.row 11025 (by kernel_rfl)).trans (by kernel_rfl); have q12025 : E.row 12025 = some (5, (.ints .u8 (rdBlock l b (⟨a, 0⟩ : SRS)).2.f0.f5.f3)) := (hA_.row 12025 (by kernel_rfl)).trans (by kernel_rfl); have q13025 : E.row 13025 = some (24, (.bss (rdBlock l b (⟨a, 0⟩ : SRS)).2.f0.f5.f4)) := (hA_.row 13025 (by kernel_rfl)).trans (by kernel_rfl); have q14025 : E.row 14025 = some (24, (.bss (rdBlock l b (⟨a, 0⟩ : SRS)).2.f1)) := (hA_.row 14025 (by kernel_rfl)).trans (by kernel_rfl); have b8 : E.box 8 = some (56, [cI 0, cI 0, cI 0, .nil, .nil, cI 0, cI 0, .nil, .nil, .nil, .nil]) := (hA_.box 8 (by kernel_rfl)).trans (by kernel_rfl); exact OpStep.plain rfl (Step.store_box (n := 11) (p := (.agg [cI (rdBlock l b (⟨a, 0⟩ : SRS)).2.f0.f0, cI (rdBlock l b (⟨a, 0⟩ : SRS)).2.f0.f1, cI (rdBlock l b (⟨a, 0⟩ : SRS)).2.f0.f2, .row 7025 [], .row 8025 [], cI (rdBlock l b (⟨a, 0⟩ : SRS)).2.f0.f5.f0, cI (rdBlock l b (⟨a, 0⟩ : SRS)).2.f0.f5.f1, .row 11025 [], .row 12025 [], .row 13025 [], .row 14025 []])) (qs := [cI (rdBlock l b (⟨a, 0⟩ : SRS)).2.f0.f0, cI (rdBlock l b (⟨a, 0⟩ : SRS)).2.f0.f1, cI (rdBlock l b (⟨a, 0⟩ : SRS)).2.f0.f2, .row 7025 [], .row 8025 [], cI (rdBlock l b (⟨a, 0⟩ : SRS)).2.f0.f5.f0, cI (rdBlock l b (⟨a, 0⟩ : SRS)).2.f0.f5.f1, .row 11025 [], .row 12025 [], .row 13025 [], .row 14025 []]) (ps' := [cI (rdBlock l b (⟨a, 0⟩ : SRS)).2.f0.f0, cI (rdBlock l b (⟨a, 0⟩ : SRS)).2.f0.f1, cI (rdBlock l b (⟨a, 0⟩ : SRS)).2.f0.f2, .row 7025 [], .row 8025 [], cI (rdBlock l b (⟨a, 0⟩ : SRS)).2.f0.f5.f0, cI (rdBlock l b (⟨a, 0⟩ : SRS)).2.f0.f5.f1, .row 11025 [], .row 12025 [], .row 13025 [], .row 14025 []]) rfl rfl (by kernel_rfl) (show Env.ev E (.tmp 8) = _ from g8.trans rfl) b8 (show Env.ev E (.tmp 36) = _ from g36.trans rfl) rfl rfl (by simp only [List.all_cons, List.all_nil, List.flatten_cons, List.flatten_nil, List.append_nil, List.cons_append, List.nil_append, Env.fine, q7025, q8025, q11025, q12025, q13025, q14025]; rfl) (le_ok rfl) rfl)) ?_
  refine .cons (fun E hA_ => by have g40 : E.get 40 = (pI (rdBlock l b (⟨a, 0⟩ : SRS)).1.f0) := (hA_.get 40 (by kernel_rfl)).trans (by kernel_rfl); exact OpStep.plain rfl (Step.assign (p := (pI (rdBlock l b (⟨a, 0⟩ : SRS)).1.f0)) (t := 9) rfl rfl (by exact lt_ok rfl) (show Env.ev E (.tmp 40) = _ from g40.trans rfl))) ?_
  refine .cons (fun E hA_ => by exact OpStep.plain rfl (Step.assign (p := (pI 0)) (t := 10) rfl rfl (by exact lt_ok rfl) rfl)) ?_
  exact .nil _ _
 refine TL.wk [(8, (.one (.ptr 8 0))), (9, (pI (rdBlock l b (⟨a, 0⟩ : SRS)).1.f0)), (10, (pI 0))] [(7025, (5, (.ints .u8 (rdBlock l b (⟨a, 0⟩ : SRS)).2.f0.f3))), (8025, (5, (.ints .u8 (rdBlock l b (⟨a, 0⟩ : SRS)).2.f0.f4))), (11025, (5, (.ints .u8 (rdBlock l b (⟨a, 0⟩ : SRS)).2.f0.f5.f2))), (12025, (5, (.ints .u8 (rdBlock l b (⟨a, 0⟩ : SRS)).2.f0.f5.f3))), (13025, (24, (.bss (rdBlock l b (⟨a, 0⟩ : SRS)).2.f0.f5.f4))), (14025, (24, (.bss (rdBlock l b (⟨a, 0⟩ : SRS)).2.f1)))] [(4, (34, [cI l.f0, cI l.f1, cI l.f2, cI l.f3, cI l.f4])), (8, (56, [cI (rdBlock l b (⟨a, 0⟩ : SRS)).2.f0.f0, cI (rdBlock l b (⟨a, 0⟩ : SRS)).2.f0.f1, cI (rdBlock l b (⟨a, 0⟩ : SRS)).2.f0.f2, .row 7025 [], .row 8025 [], cI (rdBlock l b (⟨a, 0⟩ : SRS)).2.f0.f5.f0, cI (rdBlock l b (⟨a, 0⟩ : SRS)).2.f0.f5.f1, .row 11025 [], .row 12025 [], .row 13025 [], .row 14025 []])), (11, (56, [cI 0, cI 0, cI 0, .nil, .nil, cI 0, cI 0, .nil, .nil, .nil, .nil])), (21, (144, [cS b, cI (rdBlock l b (⟨a, 0⟩ : SRS)).1.f0, cI (rdBlock l b (⟨a, 0⟩ : SRS)).1.f1])), (13, (56, [cI (rdBlock l b (⟨a, 0⟩ : SRS)).2.f0.f0, cI (rdBlock l b (⟨a, 0⟩ : SRS)).2.f0.f1, cI (rdBlock l b (⟨a, 0⟩ : SRS)).2.f0.f2, .row 7025 [], .row 8025 [], cI (rdBlock l b (⟨a, 0⟩ : SRS)).2.f0.f5.f0, cI (rdBlock l b (⟨a, 0⟩ : SRS)).2.f0.f5.f1, .row 11025 [], .row 12025 [], .row 13025 [], .row 14025 []]))] ?_
 refine TL.nil ?_
 refine T.ret ?_
 refine ⟨[(true, [cI (rdBlock l b (⟨a, 0⟩ : SRS)).2.f0.f0, cI (rdBlock l b (⟨a, 0⟩ : SRS)).2.f0.f1, cI (rdBlock l b (⟨a, 0⟩ : SRS)).2.f0.f2, .row 7025 [], .row 8025 [], cI (rdBlock l b (⟨a, 0⟩ : SRS)).2.f0.f5.f0, cI (rdBlock l b (⟨a, 0⟩ : SRS)).2.f0.f5.f1, .row 11025 [], .row 12025 [], .row 13025 [], .row 14025 []]), (false, [cI (rdBlock l b (⟨a, 0⟩ : SRS)).1.f0]), (false, [cI 0])], (.cons rfl (.cons rfl (.cons rfl .nil))), rfl, [7025, 8025, 11025, 12025, 13025, 14025], (RetC.r ?_ (RetC.r ?_ (RetC.r ?_ (RetC.o ?_ (RetC.o ?_ (RetC.r ?_ (RetC.r ?_ (RetC.o ?_ (RetC.o ?_ (RetC.o ?_ (RetC.o ?_ (RetC.r ?_ (RetC.r ?_ .nil)))))))))))))⟩ <;> (first | rfl | (congr 1; unfold getBlock; first | (rw [getOut_yes (by assumption)]; first | done | rfl) | (rw [getOut_no (by assumption)]; first | done | rfl) | (rw [rs0_ok (by assumption), getOut_yes (by assumption)]; first | done | rfl) | (rw [rs0_ok (by assumption), getOut_no (by assumption)]; first | done | rfl) | (rw [rs0_no (by assumption), getOut_nr (rdBlock_er (show ¬ ((5 : Int) = 0) by decide)) rfl]; first | done | rfl)) | (simp only [D.size, List.length_map]; unfold getBlock; first | (rw [getOut_yes (by assumption)]; first | done | rfl) | (rw [getOut_no (by assumption)]; first | done | rfl) | (rw [rs0_ok (by assumption), getOut_yes (by assumption)]; first | done | rfl) | (rw [rs0_ok (by assumption), getOut_no (by assumption)]; first | done | rfl) | (rw [rs0_no (by assumption), getOut_nr (rdBlock_er (show ¬ ((5 : Int) = 0) by decide)) rfl]; first | done | rfl)))
theorem ok_impl_GetBlock (l : SLimits) (b : List Int) (a : Int) (h0_ : U8s b) (h1_ : b.length ≤ 1048576) : RO Try.prog 46 [.agg l.cells, .one (.ints .u8 b), .one (.int .i64 a)] [(true, [.rd (.int .i64 (getBlock l b a).1.f0.f0), .rd (.int .i64 (getBlock l b a).1.f0.f1), .rd (.int .i64 (getBlock l b a).1.f0.f2), .own 5 (.ints .u8 (getBlock l b a).1.f0.f3), .own 5 (.ints .u8 (getBlock l b a).1.f0.f4), .rd (.int .i64 (getBlock l b a).1.f0.f5.f0), .rd (.int .i64 (getBlock l b a).1.f0.f5.f1), .own 5 (.ints .u8 (getBlock l b a).1.f0.f5.f2), .own 5 (.ints .u8 (getBlock l b a).1.f0.f5.f3), .own 24 (.bss (getBlock l b a).1.f0.f5.f4), .own 24 (.bss (getBlock l b a).1.f1)]), (false, [.rd (.int .i64 (getBlock l b a).2.1)]), (false, [.rd (.int .i64 (getBlock l b a).2.2)])] := by
 refine RO.intro Try.func46 rfl 16 rfl (le_ok rfl) fun w Z => ?_
 refine T.bnd 1 0 rfl rfl fun hb_1_0 => ?_
 simp only [D.size, List.length_map] at hb_1_0
 refine T.seq ?_
 refine T.region ?_
 refine TL.c (Step.bx [cI l.f0, cI l.f1, cI l.f2, cI l.f3, cI l.f4]) ?_
 refine TL.c (Step.al [cI 0, cI 0, cI 0, .nil, .nil, cI 0, cI 0, .nil, .nil, .nil, .nil]) ?_
 refine TL.as (pI 0) ?_
 refine TL.as (pI 0) ?_
 refine TL.nil ?_
 refine T.seq ?_
 refine T.region ?_
 refine TL.c (Step.lba 5 [cI l.f0, cI l.f1, cI l.f2, cI l.f3, cI l.f4]) ?_
 refine TL.mv (pS b) ?_
 refine TL.mv (pI a) ?_
 have nn1 := @getBlock_sm l b a (by first | assumption | omega)
 refine TL.c (Step.cl (xs := [.tmp 9, .tmp 10, .tmp 11, .func 99]) (ps := [(.agg [cI l.f0, cI l.f1, cI l.f2, cI l.f3, cI l.f4]), (pS b), (pI a), (.one (.d (.fn 99)))]) (g := .func 98) false (.cons (.agg (.cons (.d _) (.cons (.d _) (.cons (.d _) (.cons (.d _) (.cons (.d _) .nil)))))) (.cons (.one (.d _)) (.cons (.one (.d _)) (.cons (.one (.d _)) .nil)))) (ok_impl_Block_ l b a (by assumption) (by first | omega | assumption | (simp only [List.length_append] at *; omega)))) ?_
 refine TL.c (Step.extract (p := (.agg [cI (getBlock l b a).1.f0.f0, cI (getBlock l b a).1.f0.f1, cI (getBlock l b a).1.f0.f2, .row 4012 [], .row 5012 [], cI (getBlock l b a).1.f0.f5.f0, cI (getBlock l b a).1.f0.f5.f1, .row 8012 [], .row 9012 [], .row 10012 [], .row 11012 []])) rfl rfl (lt_ok rfl) rfl rfl) ?_
 refine TL.c (Step.extract (p := (pI (getBlock l b a).2.1)) rfl rfl (lt_ok rfl) rfl rfl) ?_
 refine TL.c (Step.extract (p := (pI (getBlock l b a).2.2)) rfl rfl (lt_ok rfl) rfl rfl) ?_
 refine TL.c (Step.sb 11 [cI (getBlock l b a).1.f0.f0, cI (getBlock l b a).1.f0.f1, cI (getBlock l b a).1.f0.f2, .row 4012 [], .row 5012 [], cI (getBlock l b a).1.f0.f5.f0, cI (getBlock l b a).1.f0.f5.f1, .row 8012 [], .row 9012 [], .row 10012 [], .row 11012 []]) ?_
 refine TL.as (pI (getBlock l b a).2.1) ?_
 refine TL.as (pI (getBlock l b a).2.2) ?_
 refine TL.nil ?_
 refine T.ret ?_
 refine ⟨[(true, [cI (getBlock l b a).1.f0.f0, cI (getBlock l b a).1.f0.f1, cI (getBlock l b a).1.f0.f2, .row 4012 [], .row 5012 [], cI (getBlock l b a).1.f0.f5.f0, cI (getBlock l b a).1.f0.f5.f1, .row 8012 [], .row 9012 [], .row 10012 [], .row 11012 []]), (false, [cI (getBlock l b a).2.1]), (false, [cI (getBlock l b a).2.2])], (.cons rfl (.cons rfl (.cons rfl .nil))), rfl, [4012, 5012, 8012, 9012, 10012, 11012], (RetC.r rfl (RetC.r rfl (RetC.r rfl (RetC.o ?_ (RetC.o ?_ (RetC.r rfl (RetC.r rfl (RetC.o ?_ (RetC.o ?_ (RetC.o ?_ (RetC.o ?_ (RetC.r rfl (RetC.r rfl .nil)))))))))))))⟩ <;> (rfl)
theorem ok_laws_heldByteS (a : List Int) (b : List Int) (k : Int) (h0_ : 0 ≤ k) (h1_ : k + (a.length : Int) ≤ 4611686018427387904) (h2_ : b = mkB a k) : RO Try.prog 25 [.one (.ints .u8 b), .one (.int .i64 k)] [(false, [.rd (.int .i64 (k + (a.length : Int)))])] := by
 refine RO.intro Try.func25 rfl 22 rfl (le_ok rfl) fun w Z => ?_
 refine T.bnd 0 0 rfl rfl fun hb_0_0 => ?_
 simp only [D.size, List.length_map] at hb_0_0
 have hl_ : b.length = a.length := by rw [h2_, mkL_length]
 have hg_ : ∀ i, i < a.length → b.getD i 0 = (k + (i : Int)) % 256 := fun i hi => by rw [h2_, mkL_getD _ _ _ _ hi]; simp only [cntL_one_take a i (by omega)]
 refine T.seq ?_
 refine T.region ?_
 refine TL.as (pI 0) ?_
 refine TL.nil ?_
 refine T.seq ?_
 refine T.seq ?_
 refine T.region ?_
 refine TL.as (pI 0) ?_
 refine TL.nil ?_
 refine T.block ?_
 refine T.loop (ι := Nat) (fun xx_ => { tm := [(0, (pS b)), (5, (pI (xx_ : Int))), (1, (pI (k + (xx_ : Int))))], rows := [], boxes := [] }) (fun xx_ => xx_ ≤ a.length) (fun xx_ => a.length - xx_) 0 ?_ ?_ ?_
 · refine Env.le_mk ⟨rfl, ?_, ?_, trivial⟩ trivial trivial <;> (first | rfl | (refine congrArg (fun n => PV.one (.d (.int .i64 n))) ?_; first | omega | (simp; done) | (simp [cntL]; done)))
 · exact Nat.zero_le _
 intro i hx
 try dsimp only at hx ⊢
 refine T.seq ?_
 refine T.seq ?_
 refine T.region ?_
 refine TL.mv (pI (i : Int)) ?_
 refine TL.mv (pS b) ?_
 refine TL.c (Step.len (e := 5) (z := 1) (d := (.ints .u8 b)) rfl rfl (lt_ok rfl) (by kernel_rfl) rfl rfl) ?_
 refine TL.b _ (Bin.lss (k := .i64) (a := (i : Int)) (b := (b.length : Int))) ?_
 refine TL.nil ?_
 refine T.ci rfl (fun h1 => ?_) (fun h1 => ?_)
 ·
  refine T.skip ?_
  refine T.seq ?_
  refine T.block ?_
  refine T.seq ?_
  refine T.seq ?_
  refine T.region ?_
  refine TL.mv (pS b) ?_
  refine TL.mv (pI (i : Int)) ?_
  refine TL.c (Step.index (e := 5) (z := 1) (i := (i : Int)) rfl rfl (lt_ok rfl) (by kernel_rfl) rfl rfl rfl (lt_ok rfl) rfl (by first | omega | (simp; omega)) (by simp only [D.size]; first | omega | (simp; omega))) ?_
  refine TL.c (Step.load (e := (.int .u8 (b.getD i 0))) rfl rfl (lt_ok rfl) (by kernel_rfl) rfl rfl) ?_
  refine TL.mv (pI (k + (i : Int))) ?_
  refine TL.c (Step.conv (c := ((k + (i : Int)) % 256)) rfl rfl (lt_ok rfl) (by kernel_rfl) (by kernel_rfl) rfl (wrap_byte _)) ?_
  refine TL.b _ (Bin.neq (k := .u8) (a := (b.getD i 0)) (b := ((k + (i : Int)) % 256))) ?_
  refine TL.nil ?_
  refine T.ci rfl (fun h2 => ?_) (fun h2 => ?_)
  ·
   refine T.seq ?_
   refine T.region ?_
   refine TL.as (pI (-1)) ?_
   refine TL.nil ?_
   refine T.ret ?_
   refine ⟨[(false, [cI (-1)])], (.cons rfl .nil), rfl, [], (RetC.r ?_ .nil)⟩ <;> (first | (congr 1; omega) | (exfalso; have := hg_ i (by omega); omega))
  refine T.skip ?_
  refine T.region ?_
  refine TL.mv (pI (k + (i : Int))) ?_
  refine TL.c (Step.bin (r := .int .i64 ((k + (i : Int)) + 1)) rfl rfl (lt_ok rfl) rfl rfl (Bin.add (a := (k + (i : Int))) (b := 1) (by first | exact wrap_ok (by first | omega | (simp; omega)) (by first | omega | (simp; omega)) | rfl))) ?_
  refine TL.as (pI ((k + (i : Int)) + 1)) ?_
  refine TL.nil ?_
  refine T.region ?_
  refine TL.mv (pI (i : Int)) ?_
  refine TL.c (Step.bin (r := .int .i64 ((i : Int) + 1)) rfl rfl (lt_ok rfl) rfl rfl (Bin.add (a := (i : Int)) (b := 1) (by first | exact wrap_ok (by first | omega | (simp; omega)) (by first | omega | (simp; omega)) | rfl))) ?_
  refine TL.as (pI ((i : Int) + 1)) ?_
  refine TL.nil ?_
  refine ⟨i + 1, by omega, by first | omega | (dsimp only; omega), Env.le_mk ⟨rfl, ?_, ?_, trivial⟩ trivial trivial⟩ <;> (first | rfl | (refine congrArg (fun n => PV.one (.d (.int .i64 n))) ?_; first | omega | (simp; done) | (simp [cntL]; done)))
 refine T.exit ?_
 refine T.seq ?_
 refine T.region ?_
 refine TL.mv (pI (k + (i : Int))) ?_
 refine TL.as (pI (k + (i : Int))) ?_
 refine TL.nil ?_
 refine T.ret ?_
 refine ⟨[(false, [cI (k + (i : Int))])], (.cons rfl .nil), rfl, [], (RetC.r ?_ .nil)⟩ <;> (first | (congr 1; omega) | (exfalso; have := hg_ i (by omega); omega))
theorem ok_laws_heldByteSS (a : List (List Int)) (b : List (List Int)) (k : Int) (h0_ : 0 ≤ k) (h1_ : k + cntL (fun x : List Int => (x.length : Int)) a ≤ 4611686018427387904) (h2_ : b = mkBs a k) : RO Try.prog 64 [.one (.bss b), .one (.int .i64 k)] [(false, [.rd (.int .i64 (k + cntL (fun x : List Int => (x.length : Int)) a))])] := by
 refine RO.intro Try.func64 rfl 21 rfl (le_ok rfl) fun w Z => ?_
 refine T.bnd 0 0 rfl rfl fun hb_0_0 => ?_
 simp only [D.size, List.length_map] at hb_0_0
 have hl_ : b.length = a.length := by rw [h2_, mkL_length]
 have hg_ : ∀ i, i < a.length → b.getD i [] = mkB (a.getD i []) (k + cntL (fun x : List Int => (x.length : Int)) (a.take i)) := fun i hi => by rw [h2_, mkL_getD _ _ _ _ hi]
 refine T.seq ?_
 refine T.region ?_
 refine TL.as (pI 0) ?_
 refine TL.nil ?_
 refine T.seq ?_
 refine T.seq ?_
 refine T.region ?_
 refine TL.as (pI 0) ?_
 refine TL.nil ?_
 refine T.block ?_
 refine T.loop (ι := Nat) (fun xx_ => { tm := [(0, (.one (.d (.bss b)))), (5, (pI (xx_ : Int))), (1, (pI (k + cntL (fun x : List Int => (x.length : Int)) (a.take xx_))))], rows := [], boxes := [] }) (fun xx_ => xx_ ≤ a.length) (fun xx_ => a.length - xx_) 0 ?_ ?_ ?_
 · refine Env.le_mk ⟨rfl, ?_, ?_, trivial⟩ trivial trivial <;> (first | rfl | (refine congrArg (fun n => PV.one (.d (.int .i64 n))) ?_; first | omega | (simp; done) | (simp [cntL]; done)))
 · exact Nat.zero_le _
 intro i hx
 try dsimp only at hx ⊢
 refine T.seq ?_
 refine T.seq ?_
 refine T.region ?_
 refine TL.mv (pI (i : Int)) ?_
 refine TL.mv (.one (.d (.bss b))) ?_
 refine TL.c (Step.len (e := 24) (z := 1) (d := (.bss b)) rfl rfl (lt_ok rfl) (by kernel_rfl) rfl rfl) ?_
 refine TL.b _ (Bin.lss (k := .i64) (a := (i : Int)) (b := (b.length : Int))) ?_
 refine TL.nil ?_
 refine T.ci rfl (fun h1 => ?_) (fun h1 => ?_)
 ·
  have hc1 := cntL_take_le (cnt := (fun x : List Int => (x.length : Int))) (fun x => by omega) a (i + 1)
  have hc2 := cntL_take_succ (cnt := (fun x : List Int => (x.length : Int))) (i := i) [] (show i < a.length by omega)
  have hc3 := cntL_nonneg (cnt := (fun x : List Int => (x.length : Int))) (fun x => by omega) (a.take i)
  have he_ := hg_ i (by omega)
  try dsimp only at hc2
  refine T.skip ?_
  refine T.seq ?_
  refine T.block ?_
  refine T.seq ?_
  refine T.region ?_
  refine TL.mv (.one (.d (.bss b))) ?_
  refine TL.mv (pI (i : Int)) ?_
  refine TL.c (Step.index (e := 24) (z := 1) (i := (i : Int)) rfl rfl (lt_ok rfl) (by kernel_rfl) rfl rfl rfl (lt_ok rfl) rfl (by first | omega | (simp; omega)) (by simp only [D.size]; first | omega | (simp; omega))) ?_
  refine TL.c (Step.load (e := (.ints .u8 (b.getD i []))) rfl rfl (lt_ok rfl) (by kernel_rfl) rfl rfl) ?_
  refine TL.mv (pI (k + cntL (fun x : List Int => (x.length : Int)) (a.take i))) ?_
  refine TL.c (Step.cl (xs := [.tmp 15, .tmp 16]) (ps := [(pS (b.getD i [])), (pI (k + cntL (fun x : List Int => (x.length : Int)) (a.take i)))]) (g := .func 25) false (.cons (.one (.d _)) (.cons (.one (.d _)) .nil)) (ok_laws_heldByteS (a.getD i []) (b.getD i []) (k + cntL (fun x : List Int => (x.length : Int)) (a.take i)) (by omega) (by first | omega | (have := (by assumption); omega)) (by first | rfl | assumption | (repeat' (first | rfl | apply And.intro))))) ?_
  refine TL.as (pI ((k + cntL (fun x : List Int => (x.length : Int)) (a.take i)) + ((a.getD i []).length : Int))) ?_
  refine TL.nil ?_
  refine T.seq ?_
  refine T.region ?_
  refine TL.mv (pI ((k + cntL (fun x : List Int => (x.length : Int)) (a.take i)) + ((a.getD i []).length : Int))) ?_
  refine TL.b _ (Bin.lss (k := .i64) (a := ((k + cntL (fun x : List Int => (x.length : Int)) (a.take i)) + ((a.getD i []).length : Int))) (b := 0)) ?_
  refine TL.known 19 (c := false) (decide_eq_false (by omega)) rfl ?_
  refine TL.nil ?_
  refine T.cf ?_
  refine T.skip ?_
  refine T.region ?_
  refine TL.mv (pI (i : Int)) ?_
  refine TL.c (Step.bin (r := .int .i64 ((i : Int) + 1)) rfl rfl (lt_ok rfl) rfl rfl (Bin.add (a := (i : Int)) (b := 1) (by first | exact wrap_ok (by first | omega | (simp; omega)) (by first | omega | (simp; omega)) | rfl))) ?_
  refine TL.as (pI ((i : Int) + 1)) ?_
  refine TL.nil ?_
  refine ⟨i + 1, by omega, by first | omega | (dsimp only; omega), Env.le_mk ⟨rfl, ?_, ?_, trivial⟩ trivial trivial⟩ <;> (first | rfl | (refine congrArg (fun n => PV.one (.d (.int .i64 n))) ?_; first | omega | (simp; done) | (simp [cntL]; done)))
 refine T.exit ?_
 refine T.seq ?_
 refine T.region ?_
 refine TL.mv (pI (k + cntL (fun x : List Int => (x.length : Int)) (a.take i))) ?_
 refine TL.as (pI (k + cntL (fun x : List Int => (x.length : Int)) (a.take i))) ?_
 refine TL.nil ?_
 refine T.ret ?_
 refine ⟨[(false, [cI (k + cntL (fun x : List Int => (x.length : Int)) (a.take i))])], (.cons rfl .nil), rfl, [], (RetC.r ?_ .nil)⟩ <;> (first | (congr 1; rw [cntL_all (by omega)]) | (exfalso; omega))
theorem ok_laws_heldQc (a : SQc) (b : SQc) (k : Int) (h0_ : 0 ≤ k) (h1_ : k + a.cm ≤ 4611686018427387904) (h2_ : SQc.hm a b k) : RO Try.prog 36 [.agg b.cells, .one (.int .i64 k)] [(false, [.rd (.int .i64 (k + a.cm))])] := by
 refine RO.intro Try.func36 rfl 24 rfl (le_ok rfl) fun w Z => ?_
 obtain ⟨p2, p3, p4⟩ := h2_
 have n4 := cntBs_nonneg a.f4
 simp only [SQc.cm] at h1_
 refine T.seq ?_
 refine T.region ?_
 refine TL.c (Step.bx [cI b.f0, cI b.f1, cS b.f2, cS b.f3, .d (.bss b.f4)]) ?_
 refine TL.as (pI 0) ?_
 refine TL.nil ?_
 refine T.seq ?_
 refine T.region ?_
 refine TL.c (Step.fd 2 1 true) ?_
 refine TL.c (Step.lb (.d (.ints .u8 b.f2))) ?_
 refine TL.mv (pI k) ?_
 refine TL.c (Step.cl (xs := [.tmp 6, .tmp 7]) (ps := [(pS b.f2), (pI k)]) (g := .func 25) false (.cons (.one (.d _)) (.cons (.one (.d _)) .nil)) (ok_laws_heldByteS a.f2 b.f2 k (by omega) (by first | omega | (have := (by assumption); omega)) (by first | rfl | assumption | (repeat' (first | rfl | apply And.intro))))) ?_
 refine TL.as (pI (k + (a.f2.length : Int))) ?_
 refine TL.nil ?_
 refine T.seq ?_
 refine T.seq ?_
 refine T.region ?_
 refine TL.mv (pI (k + (a.f2.length : Int))) ?_
 refine TL.b _ (Bin.lss (k := .i64) (a := (k + (a.f2.length : Int))) (b := 0)) ?_
 refine TL.known 10 (c := false) (decide_eq_false (by omega)) rfl ?_
 refine TL.nil ?_
 refine T.cf ?_
 refine T.skip ?_
 refine T.seq ?_
 refine T.region ?_
 refine TL.c (Step.fd 3 1 true) ?_
 refine TL.c (Step.lb (.d (.ints .u8 b.f3))) ?_
 refine TL.mv (pI (k + (a.f2.length : Int))) ?_
 refine TL.c (Step.cl (xs := [.tmp 12, .tmp 13]) (ps := [(pS b.f3), (pI (k + (a.f2.length : Int)))]) (g := .func 25) false (.cons (.one (.d _)) (.cons (.one (.d _)) .nil)) (ok_laws_heldByteS a.f3 b.f3 (k + (a.f2.length : Int)) (by omega) (by first | omega | (have := (by assumption); omega)) (by first | rfl | assumption | (repeat' (first | rfl | apply And.intro))))) ?_
 refine TL.as (pI ((k + (a.f2.length : Int)) + (a.f3.length : Int))) ?_
 refine TL.nil ?_
 refine T.seq ?_
 refine T.seq ?_
 refine T.region ?_
 refine TL.mv (pI ((k + (a.f2.length : Int)) + (a.f3.length : Int))) ?_
 refine TL.b _ (Bin.lss (k := .i64) (a := ((k + (a.f2.length : Int)) + (a.f3.length : Int))) (b := 0)) ?_
 refine TL.known 16 (c := false) (decide_eq_false (by omega)) rfl ?_
 refine TL.nil ?_
 refine T.cf ?_
 refine T.skip ?_
 refine T.seq ?_
 refine T.region ?_
 refine TL.c (Step.fd 4 1 true) ?_
 refine TL.c (Step.lb (.d (.bss b.f4))) ?_
 refine TL.mv (pI ((k + (a.f2.length : Int)) + (a.f3.length : Int))) ?_
 have nn1 := cntBs_nonneg a.f4
 refine TL.c (Step.cl (xs := [.tmp 18, .tmp 19]) (ps := [(.one (.d (.bss b.f4))), (pI ((k + (a.f2.length : Int)) + (a.f3.length : Int)))]) (g := .func 64) false (.cons (.one (.d _)) (.cons (.one (.d _)) .nil)) (ok_laws_heldByteSS a.f4 b.f4 ((k + (a.f2.length : Int)) + (a.f3.length : Int)) (by omega) (by first | omega | (have := cntBs_le (xs := a.f4) (by assumption); omega)) (by first | rfl | assumption | (repeat' (first | rfl | apply And.intro))))) ?_
 refine TL.as (pI (((k + (a.f2.length : Int)) + (a.f3.length : Int)) + cntL (fun x : List Int => (x.length : Int)) a.f4)) ?_
 refine TL.nil ?_
 refine T.seq ?_
 refine T.seq ?_
 refine T.region ?_
 refine TL.mv (pI (((k + (a.f2.length : Int)) + (a.f3.length : Int)) + cntL (fun x : List Int => (x.length : Int)) a.f4)) ?_
 refine TL.b _ (Bin.lss (k := .i64) (a := (((k + (a.f2.length : Int)) + (a.f3.length : Int)) + cntL (fun x : List Int => (x.length : Int)) a.f4)) (b := 0)) ?_
 refine TL.known 22 (c := false) (decide_eq_false (by omega)) rfl ?_
 refine TL.nil ?_
 refine T.cf ?_
 refine T.skip ?_
 refine T.seq ?_
 refine T.region ?_
 refine TL.mv (pI (((k + (a.f2.length : Int)) + (a.f3.length : Int)) + cntL (fun x : List Int => (x.length : Int)) a.f4)) ?_
 refine TL.as (pI (((k + (a.f2.length : Int)) + (a.f3.length : Int)) + cntL (fun x : List Int => (x.length : Int)) a.f4)) ?_
 refine TL.nil ?_
 refine T.ret ?_
 refine ⟨[(false, [cI (((k + (a.f2.length : Int)) + (a.f3.length : Int)) + cntL (fun x : List Int => (x.length : Int)) a.f4)])], (.cons rfl .nil), rfl, [], (RetC.r ?_ .nil)⟩ <;> (first | rfl | (congr 1; simp only [SQc.cm]; omega))
theorem ok_laws_heldHead (a : SHead) (b : SHead) (k : Int) (h0_ : 0 ≤ k) (h1_ : k + a.cm ≤ 4611686018427387904) (h2_ : SHead.hm a b k) : RO Try.prog 41 [.agg b.cells, .one (.int .i64 k)] [(false, [.rd (.int .i64 (k + a.cm))])] := by
 refine RO.intro Try.func41 rfl 24 rfl (le_ok rfl) fun w Z => ?_
 obtain ⟨p3, p4, p5⟩ := h2_
 have n5 := SQc.cm_nn a.f5
 simp only [SHead.cm] at h1_
 refine T.seq ?_
 refine T.region ?_
 refine TL.c (Step.bx [cI b.f0, cI b.f1, cI b.f2, cS b.f3, cS b.f4, cI b.f5.f0, cI b.f5.f1, cS b.f5.f2, cS b.f5.f3, .d (.bss b.f5.f4)]) ?_
 refine TL.as (pI 0) ?_
 refine TL.nil ?_
 refine T.seq ?_
 refine T.region ?_
 refine TL.c (Step.fd 3 1 true) ?_
 refine TL.c (Step.lb (.d (.ints .u8 b.f3))) ?_
 refine TL.mv (pI k) ?_
 refine TL.c (Step.cl (xs := [.tmp 6, .tmp 7]) (ps := [(pS b.f3), (pI k)]) (g := .func 25) false (.cons (.one (.d _)) (.cons (.one (.d _)) .nil)) (ok_laws_heldByteS a.f3 b.f3 k (by omega) (by first | omega | (have := (by assumption); omega)) (by first | rfl | assumption | (repeat' (first | rfl | apply And.intro))))) ?_
 refine TL.as (pI (k + (a.f3.length : Int))) ?_
 refine TL.nil ?_
 refine T.seq ?_
 refine T.seq ?_
 refine T.region ?_
 refine TL.mv (pI (k + (a.f3.length : Int))) ?_
 refine TL.b _ (Bin.lss (k := .i64) (a := (k + (a.f3.length : Int))) (b := 0)) ?_
 refine TL.known 10 (c := false) (decide_eq_false (by omega)) rfl ?_
 refine TL.nil ?_
 refine T.cf ?_
 refine T.skip ?_
 refine T.seq ?_
 refine T.region ?_
 refine TL.c (Step.fd 4 1 true) ?_
 refine TL.c (Step.lb (.d (.ints .u8 b.f4))) ?_
 refine TL.mv (pI (k + (a.f3.length : Int))) ?_
 refine TL.c (Step.cl (xs := [.tmp 12, .tmp 13]) (ps := [(pS b.f4), (pI (k + (a.f3.length : Int)))]) (g := .func 25) false (.cons (.one (.d _)) (.cons (.one (.d _)) .nil)) (ok_laws_heldByteS a.f4 b.f4 (k + (a.f3.length : Int)) (by omega) (by first | omega | (have := (by assumption); omega)) (by first | rfl | assumption | (repeat' (first | rfl | apply And.intro))))) ?_
 refine TL.as (pI ((k + (a.f3.length : Int)) + (a.f4.length : Int))) ?_
 refine TL.nil ?_
 refine T.seq ?_
 refine T.seq ?_
 refine T.region ?_
 refine TL.mv (pI ((k + (a.f3.length : Int)) + (a.f4.length : Int))) ?_
 refine TL.b _ (Bin.lss (k := .i64) (a := ((k + (a.f3.length : Int)) + (a.f4.length : Int))) (b := 0)) ?_
 refine TL.known 16 (c := false) (decide_eq_false (by omega)) rfl ?_
 refine TL.nil ?_
 refine T.cf ?_
 refine T.skip ?_
 refine T.seq ?_
 refine T.region ?_
 refine TL.c (Step.fd 5 5 false) ?_
 refine TL.c (Step.lba 5 [cI b.f5.f0, cI b.f5.f1, cS b.f5.f2, cS b.f5.f3, .d (.bss b.f5.f4)]) ?_
 refine TL.mv (pI ((k + (a.f3.length : Int)) + (a.f4.length : Int))) ?_
 have nn1 := SQc.cm_nn a.f5
 refine TL.c (Step.cl (xs := [.tmp 18, .tmp 19]) (ps := [(.agg [cI b.f5.f0, cI b.f5.f1, cS b.f5.f2, cS b.f5.f3, .d (.bss b.f5.f4)]), (pI ((k + (a.f3.length : Int)) + (a.f4.length : Int)))]) (g := .func 36) false (.cons (.agg (.cons (.d _) (.cons (.d _) (.cons (.d _) (.cons (.d _) (.cons (.d _) .nil)))))) (.cons (.one (.d _)) .nil)) (ok_laws_heldQc a.f5 b.f5 ((k + (a.f3.length : Int)) + (a.f4.length : Int)) (by omega) (by first | omega | (have := SQc.cm_le (x := a.f5) (by assumption); omega)) (by first | rfl | assumption | (repeat' (first | rfl | apply And.intro))))) ?_
 refine TL.as (pI (((k + (a.f3.length : Int)) + (a.f4.length : Int)) + a.f5.cm)) ?_
 refine TL.nil ?_
 refine T.seq ?_
 refine T.seq ?_
 refine T.region ?_
 refine TL.mv (pI (((k + (a.f3.length : Int)) + (a.f4.length : Int)) + a.f5.cm)) ?_
 refine TL.b _ (Bin.lss (k := .i64) (a := (((k + (a.f3.length : Int)) + (a.f4.length : Int)) + a.f5.cm)) (b := 0)) ?_
 refine TL.known 22 (c := false) (decide_eq_false (by omega)) rfl ?_
 refine TL.nil ?_
 refine T.cf ?_
 refine T.skip ?_
 refine T.seq ?_
 refine T.region ?_
 refine TL.mv (pI (((k + (a.f3.length : Int)) + (a.f4.length : Int)) + a.f5.cm)) ?_
 refine TL.as (pI (((k + (a.f3.length : Int)) + (a.f4.length : Int)) + a.f5.cm)) ?_
 refine TL.nil ?_
 refine T.ret ?_
 refine ⟨[(false, [cI (((k + (a.f3.length : Int)) + (a.f4.length : Int)) + a.f5.cm)])], (.cons rfl .nil), rfl, [], (RetC.r ?_ .nil)⟩ <;> (first | rfl | (congr 1; simp only [SHead.cm]; omega))
theorem ok_laws_heldBlock (a : SBlock) (b : SBlock) (k : Int) (h0_ : 0 ≤ k) (h1_ : k + a.cm ≤ 4611686018427387904) (h2_ : SBlock.hm a b k) : RO Try.prog 47 [.agg b.cells, .one (.int .i64 k)] [(false, [.rd (.int .i64 (k + a.cm))])] := by
 refine RO.intro Try.func47 rfl 18 rfl (le_ok rfl) fun w Z => ?_
 obtain ⟨p0, p1⟩ := h2_
 have n0 := SHead.cm_nn a.f0
 have n1 := cntBs_nonneg a.f1
 simp only [SBlock.cm] at h1_
 refine T.seq ?_
 refine T.region ?_
 refine TL.c (Step.bx [cI b.f0.f0, cI b.f0.f1, cI b.f0.f2, cS b.f0.f3, cS b.f0.f4, cI b.f0.f5.f0, cI b.f0.f5.f1, cS b.f0.f5.f2, cS b.f0.f5.f3, .d (.bss b.f0.f5.f4), .d (.bss b.f1)]) ?_
 refine TL.as (pI 0) ?_
 refine TL.nil ?_
 refine T.seq ?_
 refine T.region ?_
 refine TL.c (Step.fd 0 10 false) ?_
 refine TL.c (Step.lba 10 [cI b.f0.f0, cI b.f0.f1, cI b.f0.f2, cS b.f0.f3, cS b.f0.f4, cI b.f0.f5.f0, cI b.f0.f5.f1, cS b.f0.f5.f2, cS b.f0.f5.f3, .d (.bss b.f0.f5.f4)]) ?_
 refine TL.mv (pI k) ?_
 have nn1 := SHead.cm_nn a.f0
 refine TL.c (Step.cl (xs := [.tmp 6, .tmp 7]) (ps := [(.agg [cI b.f0.f0, cI b.f0.f1, cI b.f0.f2, cS b.f0.f3, cS b.f0.f4, cI b.f0.f5.f0, cI b.f0.f5.f1, cS b.f0.f5.f2, cS b.f0.f5.f3, .d (.bss b.f0.f5.f4)]), (pI k)]) (g := .func 41) false (.cons (.agg (.cons (.d _) (.cons (.d _) (.cons (.d _) (.cons (.d _) (.cons (.d _) (.cons (.d _) (.cons (.d _) (.cons (.d _) (.cons (.d _) (.cons (.d _) .nil))))))))))) (.cons (.one (.d _)) .nil)) (ok_laws_heldHead a.f0 b.f0 k (by omega) (by first | omega | (have := SHead.cm_le (x := a.f0) (by assumption); omega)) (by first | rfl | assumption | (repeat' (first | rfl | apply And.intro))))) ?_
 refine TL.as (pI (k + a.f0.cm)) ?_
 refine TL.nil ?_
 refine T.seq ?_
 refine T.seq ?_
 refine T.region ?_
 refine TL.mv (pI (k + a.f0.cm)) ?_
 refine TL.b _ (Bin.lss (k := .i64) (a := (k + a.f0.cm)) (b := 0)) ?_
 refine TL.known 10 (c := false) (decide_eq_false (by omega)) rfl ?_
 refine TL.nil ?_
 refine T.cf ?_
 refine T.skip ?_
 refine T.seq ?_
 refine T.region ?_
 refine TL.c (Step.fd 10 1 true) ?_
 refine TL.c (Step.lb (.d (.bss b.f1))) ?_
 refine TL.mv (pI (k + a.f0.cm)) ?_
 have nn2 := cntBs_nonneg a.f1
 refine TL.c (Step.cl (xs := [.tmp 12, .tmp 13]) (ps := [(.one (.d (.bss b.f1))), (pI (k + a.f0.cm))]) (g := .func 64) false (.cons (.one (.d _)) (.cons (.one (.d _)) .nil)) (ok_laws_heldByteSS a.f1 b.f1 (k + a.f0.cm) (by omega) (by first | omega | (have := cntBs_le (xs := a.f1) (by assumption); omega)) (by first | rfl | assumption | (repeat' (first | rfl | apply And.intro))))) ?_
 refine TL.as (pI ((k + a.f0.cm) + cntL (fun x : List Int => (x.length : Int)) a.f1)) ?_
 refine TL.nil ?_
 refine T.seq ?_
 refine T.seq ?_
 refine T.region ?_
 refine TL.mv (pI ((k + a.f0.cm) + cntL (fun x : List Int => (x.length : Int)) a.f1)) ?_
 refine TL.b _ (Bin.lss (k := .i64) (a := ((k + a.f0.cm) + cntL (fun x : List Int => (x.length : Int)) a.f1)) (b := 0)) ?_
 refine TL.known 16 (c := false) (decide_eq_false (by omega)) rfl ?_
 refine TL.nil ?_
 refine T.cf ?_
 refine T.skip ?_
 refine T.seq ?_
 refine T.region ?_
 refine TL.mv (pI ((k + a.f0.cm) + cntL (fun x : List Int => (x.length : Int)) a.f1)) ?_
 refine TL.as (pI ((k + a.f0.cm) + cntL (fun x : List Int => (x.length : Int)) a.f1)) ?_
 refine TL.nil ?_
 refine T.ret ?_
 refine ⟨[(false, [cI ((k + a.f0.cm) + cntL (fun x : List Int => (x.length : Int)) a.f1)])], (.cons rfl .nil), rfl, [], (RetC.r ?_ .nil)⟩ <;> (first | rfl | (congr 1; simp only [SBlock.cm]; omega))
theorem ok_laws_FnExactGetBlock (aL : SLimits) (aB : List Int) (aAt : Int) (h0_ : aL.ok) (h1_ : U8s aB) (h2_ : I64 aAt) : RO Try.prog 8 [.agg aL.cells, .one (.ints .u8 aB), .one (.int .i64 aAt)] [(false, [.rd (.bool true)])] := by
 refine RO.intro Try.func8 rfl 127 rfl (le_ok rfl) fun w Z => ?_
 refine T.bnd 1 0 rfl rfl fun hb_1_0 => ?_
 simp only [D.size, List.length_map] at hb_1_0
 refine T.seq ?_
 refine T.region ?_
 refine TL.c (Step.bx [cI aL.f0, cI aL.f1, cI aL.f2, cI aL.f3, cI aL.f4]) ?_
 refine TL.as (pB false) ?_
 refine TL.nil ?_
 refine T.seq ?_
 refine T.seq ?_
 refine T.region ?_
 refine TL.mv (pS aB) ?_
 refine TL.c (Step.len (e := 5) (z := 1) (d := (.ints .u8 aB)) rfl rfl (lt_ok rfl) (by kernel_rfl) rfl rfl) ?_
 refine TL.b _ (Bin.gtr (k := .i64) (a := (aB.length : Int)) (b := 1048576)) ?_
 refine TL.nil ?_
 refine T.ci rfl (fun h1 => ?_) (fun h1 => ?_)
 ·
  refine T.seq ?_
  refine T.region ?_
  refine TL.as (pB true) ?_
  refine TL.nil ?_
  refine T.ret ?_
  exact ⟨[(false, [.d (.bool true)])], (.cons rfl .nil), rfl, [], (RetC.rd' rfl .nil)⟩
 refine T.skip ?_
 refine T.seq ?_
 refine T.region ?_
 refine TL.c (Step.lba 5 [cI aL.f0, cI aL.f1, cI aL.f2, cI aL.f3, cI aL.f4]) ?_
 refine TL.c (Step.cl (xs := [.tmp 24]) (ps := [(.agg [cI aL.f0, cI aL.f1, cI aL.f2, cI aL.f3, cI aL.f4])]) (g := .func 17) false (.cons (.agg (.cons (.d _) (.cons (.d _) (.cons (.d _) (.cons (.d _) (.cons (.d _) .nil)))))) .nil) (ok_laws_toLimits aL)) ?_
 refine TL.mv (pS aB) ?_
 refine TL.c (Step.cl (xs := [.tmp 26]) (ps := [(pS aB)]) (g := .func 18) false (.cons (.one (.d _)) .nil) (ok_laws_toByteS aB (by first | omega | assumption | exact mem_getD h0_.2 (by omega)))) ?_
 refine TL.mv (pI aAt) ?_
 have nn2 := @getBlock_sm aL aB aAt (by first | assumption | omega)
 refine TL.c (Step.cl (xs := [.tmp 25, .tmp 27, .tmp 28]) (ps := [(.agg [cI aL.f0, cI aL.f1, cI aL.f2, cI aL.f3, cI aL.f4]), (.one (.row 1027 [])), (pI aAt)]) (g := .func 45) false (.cons (.agg (.cons (.d _) (.cons (.d _) (.cons (.d _) (.cons (.d _) (.cons (.d _) .nil)))))) (.cons (.one (.row rfl rfl rfl rfl)) (.cons (.one (.d _)) .nil))) (ok_spec_GetBlock aL aB aAt (by assumption) (by first | omega | assumption | (simp only [List.length_append] at *; omega)))) ?_
 refine TL.mv (.tup [(true, [cI (getBlock aL aB aAt).1.f0.f0, cI (getBlock aL aB aAt).1.f0.f1, cI (getBlock aL aB aAt).1.f0.f2, .row 4029 [], .row 5029 [], cI (getBlock aL aB aAt).1.f0.f5.f0, cI (getBlock aL aB aAt).1.f0.f5.f1, .row 8029 [], .row 9029 [], .row 10029 [], .row 11029 []]), (false, [cI (getBlock aL aB aAt).2.1]), (false, [cI (getBlock aL aB aAt).2.2])]) ?_
 refine TL.c (Step.extract (p := (.agg [cI (getBlock aL aB aAt).1.f0.f0, cI (getBlock aL aB aAt).1.f0.f1, cI (getBlock aL aB aAt).1.f0.f2, .row 4029 [], .row 5029 [], cI (getBlock aL aB aAt).1.f0.f5.f0, cI (getBlock aL aB aAt).1.f0.f5.f1, .row 8029 [], .row 9029 [], .row 10029 [], .row 11029 []])) rfl rfl (lt_ok rfl) rfl rfl) ?_
 refine TL.c (Step.extract (p := (pI (getBlock aL aB aAt).2.1)) rfl rfl (lt_ok rfl) rfl rfl) ?_
 refine TL.c (Step.extract (p := (pI (getBlock aL aB aAt).2.2)) rfl rfl (lt_ok rfl) rfl rfl) ?_
 refine TL.c (Step.al [cI 0, cI 0, cI 0, .nil, .nil, cI 0, cI 0, .nil, .nil, .nil, .nil]) ?_
 refine TL.c (Step.sb 11 [cI (getBlock aL aB aAt).1.f0.f0, cI (getBlock aL aB aAt).1.f0.f1, cI (getBlock aL aB aAt).1.f0.f2, .row 4029 [], .row 5029 [], cI (getBlock aL aB aAt).1.f0.f5.f0, cI (getBlock aL aB aAt).1.f0.f5.f1, .row 8029 [], .row 9029 [], .row 10029 [], .row 11029 []]) ?_
 refine TL.as (pI (getBlock aL aB aAt).2.1) ?_
 refine TL.as (pI (getBlock aL aB aAt).2.2) ?_
 refine TL.nil ?_
 refine T.wk [(1, (pS aB)), (2, (pI aAt)), (3, (.one (.ptr 3 0))), (6, (pB false)), (7, (.one (.ptr 7 0))), (8, (pI (getBlock aL aB aAt).2.1)), (9, (pI (getBlock aL aB aAt).2.2))] [(4029, (5, (.ints .u8 (getBlock aL aB aAt).1.f0.f3))), (5029, (5, (.ints .u8 (getBlock aL aB aAt).1.f0.f4))), (8029, (5, (.ints .u8 (getBlock aL aB aAt).1.f0.f5.f2))), (9029, (5, (.ints .u8 (getBlock aL aB aAt).1.f0.f5.f3))), (10029, (24, (.bss (getBlock aL aB aAt).1.f0.f5.f4))), (11029, (24, (.bss (getBlock aL aB aAt).1.f1)))] [(3, (23, [cI aL.f0, cI aL.f1, cI aL.f2, cI aL.f3, cI aL.f4])), (7, (56, [cI (getBlock aL aB aAt).1.f0.f0, cI (getBlock aL aB aAt).1.f0.f1, cI (getBlock aL aB aAt).1.f0.f2, .row 4029 [], .row 5029 [], cI (getBlock aL aB aAt).1.f0.f5.f0, cI (getBlock aL aB aAt).1.f0.f5.f1, .row 8029 [], .row 9029 [], .row 10029 [], .row 11029 []]))] ?_
 refine T.seq ?_
 refine T.region ?_
 refine TL.mv (pS aB) ?_
 refine TL.c (Step.cl (xs := [.tmp 33]) (ps := [(pS aB)]) (g := .func 18) false (.cons (.one (.d _)) .nil) (ok_laws_toByteS aB (by first | omega | assumption | exact mem_getD h0_.2 (by omega)))) ?_
 refine TL.as (.one (.row 1034 [])) ?_
 refine TL.nil ?_
 refine T.seq ?_
 refine T.region ?_
 refine TL.c (Step.lba 5 [cI aL.f0, cI aL.f1, cI aL.f2, cI aL.f3, cI aL.f4]) ?_
 refine TL.c (Step.cl (xs := [.tmp 36]) (ps := [(.agg [cI aL.f0, cI aL.f1, cI aL.f2, cI aL.f3, cI aL.f4])]) (g := .func 17) false (.cons (.agg (.cons (.d _) (.cons (.d _) (.cons (.d _) (.cons (.d _) (.cons (.d _) .nil)))))) .nil) (ok_laws_toLimits aL)) ?_
 refine TL.mv (.one (.row 1034 [])) ?_
 refine TL.mv (pI aAt) ?_
 have nn3 := @getBlock_sm aL aB aAt (by first | assumption | omega)
 refine TL.c (Step.cl (xs := [.tmp 37, .tmp 38, .tmp 39]) (ps := [(.agg [cI aL.f0, cI aL.f1, cI aL.f2, cI aL.f3, cI aL.f4]), (.one (.row 1034 [])), (pI aAt)]) (g := .func 46) false (.cons (.agg (.cons (.d _) (.cons (.d _) (.cons (.d _) (.cons (.d _) (.cons (.d _) .nil)))))) (.cons (.one (.row rfl rfl rfl rfl)) (.cons (.one (.d _)) .nil))) (ok_impl_GetBlock aL aB aAt (by assumption) (by first | omega | assumption | (simp only [List.length_append] at *; omega)))) ?_
 refine TL.mv (.tup [(true, [cI (getBlock aL aB aAt).1.f0.f0, cI (getBlock aL aB aAt).1.f0.f1, cI (getBlock aL aB aAt).1.f0.f2, .row 4040 [], .row 5040 [], cI (getBlock aL aB aAt).1.f0.f5.f0, cI (getBlock aL aB aAt).1.f0.f5.f1, .row 8040 [], .row 9040 [], .row 10040 [], .row 11040 []]), (false, [cI (getBlock aL aB aAt).2.1]), (false, [cI (getBlock aL aB aAt).2.2])]) ?_
 refine TL.c (Step.extract (p := (.agg [cI (getBlock aL aB aAt).1.f0.f0, cI (getBlock aL aB aAt).1.f0.f1, cI (getBlock aL aB aAt).1.f0.f2, .row 4040 [], .row 5040 [], cI (getBlock aL aB aAt).1.f0.f5.f0, cI (getBlock aL aB aAt).1.f0.f5.f1, .row 8040 [], .row 9040 [], .row 10040 [], .row 11040 []])) rfl rfl (lt_ok rfl) rfl rfl) ?_
 refine TL.c (Step.extract (p := (pI (getBlock aL aB aAt).2.1)) rfl rfl (lt_ok rfl) rfl rfl) ?_
 refine TL.c (Step.extract (p := (pI (getBlock aL aB aAt).2.2)) rfl rfl (lt_ok rfl) rfl rfl) ?_
 refine TL.c (Step.al [cI 0, cI 0, cI 0, .nil, .nil, cI 0, cI 0, .nil, .nil, .nil, .nil]) ?_
 refine TL.c (Step.sb 11 [cI (getBlock aL aB aAt).1.f0.f0, cI (getBlock aL aB aAt).1.f0.f1, cI (getBlock aL aB aAt).1.f0.f2, .row 4040 [], .row 5040 [], cI (getBlock aL aB aAt).1.f0.f5.f0, cI (getBlock aL aB aAt).1.f0.f5.f1, .row 8040 [], .row 9040 [], .row 10040 [], .row 11040 []]) ?_
 refine TL.as (pI (getBlock aL aB aAt).2.1) ?_
 refine TL.as (pI (getBlock aL aB aAt).2.2) ?_
 refine TL.nil ?_
 refine T.seq ?_
 refine T.seq ?_
 refine T.region ?_
 refine TL.c (Step.lba 11 [cI (getBlock aL aB aAt).1.f0.f0, cI (getBlock aL aB aAt).1.f0.f1, cI (getBlock aL aB aAt).1.f0.f2, .row 4040 [], .row 5040 [], cI (getBlock aL aB aAt).1.f0.f5.f0, cI (getBlock aL aB aAt).1.f0.f5.f1, .row 8040 [], .row 9040 [], .row 10040 [], .row 11040 []]) ?_
 refine TL.c (Step.lba 11 [cI (getBlock aL aB aAt).1.f0.f0, cI (getBlock aL aB aAt).1.f0.f1, cI (getBlock aL aB aAt).1.f0.f2, .row 4029 [], .row 5029 [], cI (getBlock aL aB aAt).1.f0.f5.f0, cI (getBlock aL aB aAt).1.f0.f5.f1, .row 8029 [], .row 9029 [], .row 10029 [], .row 11029 []]) ?_
 refine TL.c (Step.cl (xs := [.tmp 44, .tmp 45]) (ps := [(.agg [cI (getBlock aL aB aAt).1.f0.f0, cI (getBlock aL aB aAt).1.f0.f1, cI (getBlock aL aB aAt).1.f0.f2, .row 4040 [], .row 5040 [], cI (getBlock aL aB aAt).1.f0.f5.f0, cI (getBlock aL aB aAt).1.f0.f5.f1, .row 8040 [], .row 9040 [], .row 10040 [], .row 11040 []]), (.agg [cI (getBlock aL aB aAt).1.f0.f0, cI (getBlock aL aB aAt).1.f0.f1, cI (getBlock aL aB aAt).1.f0.f2, .row 4029 [], .row 5029 [], cI (getBlock aL aB aAt).1.f0.f5.f0, cI (getBlock aL aB aAt).1.f0.f5.f1, .row 8029 [], .row 9029 [], .row 10029 [], .row 11029 []])]) (g := .func 30) false (.cons (.agg (.cons (.d _) (.cons (.d _) (.cons (.d _) (.cons (.row rfl rfl rfl rfl) (.cons (.row rfl rfl rfl rfl) (.cons (.d _) (.cons (.d _) (.cons (.row rfl rfl rfl rfl) (.cons (.row rfl rfl rfl rfl) (.cons (.row rfl rfl rfl rfl) (.cons (.row rfl rfl rfl rfl) .nil)))))))))))) (.cons (.agg (.cons (.d _) (.cons (.d _) (.cons (.d _) (.cons (.row rfl rfl rfl rfl) (.cons (.row rfl rfl rfl rfl) (.cons (.d _) (.cons (.d _) (.cons (.row rfl rfl rfl rfl) (.cons (.row rfl rfl rfl rfl) (.cons (.row rfl rfl rfl rfl) (.cons (.row rfl rfl rfl rfl) .nil)))))))))))) .nil)) (ok_laws_eqBlock (getBlock aL aB aAt).1 (getBlock aL aB aAt).1)) ?_
 refine TL.known 46 (c := true) (by simp) rfl ?_
 refine TL.c (Step.not (b := true) rfl rfl (lt_ok rfl) rfl) ?_
 refine TL.mv (pB false) ?_
 refine TL.gm 48 (pI (getBlock aL aB aAt).2.1) ?_
 refine TL.gm 48 (pI (getBlock aL aB aAt).2.1) ?_
 refine TL.gy 48 (Step.bin rfl rfl (lt_ok rfl) rfl rfl (Bin.neq (k := .i64) (a := (getBlock aL aB aAt).2.1) (b := (getBlock aL aB aAt).2.1))) ?_
 refine TL.known 51 (c := false) (by simp) rfl ?_
 refine TL.pk false (pB false) ?_
 refine TL.mv (pB false) ?_
 refine TL.gm 53 (pI (getBlock aL aB aAt).2.2) ?_
 refine TL.gm 53 (pI (getBlock aL aB aAt).2.2) ?_
 refine TL.gy 53 (Step.bin rfl rfl (lt_ok rfl) rfl rfl (Bin.neq (k := .i64) (a := (getBlock aL aB aAt).2.2) (b := (getBlock aL aB aAt).2.2))) ?_
 refine TL.known 56 (c := false) (by simp) rfl ?_
 refine TL.pk false (pB false) ?_
 refine TL.nil ?_
 refine T.wk [(1, (pS aB)), (2, (pI aAt)), (3, (.one (.ptr 3 0))), (6, (pB false)), (7, (.one (.ptr 7 0))), (8, (pI (getBlock aL aB aAt).2.1)), (9, (pI (getBlock aL aB aAt).2.2)), (10, (.one (.row 1034 []))), (11, (.one (.ptr 11 0))), (12, (pI (getBlock aL aB aAt).2.1)), (13, (pI (getBlock aL aB aAt).2.2)), (57, (pB false))] [(4029, (5, (.ints .u8 (getBlock aL aB aAt).1.f0.f3))), (5029, (5, (.ints .u8 (getBlock aL aB aAt).1.f0.f4))), (8029, (5, (.ints .u8 (getBlock aL aB aAt).1.f0.f5.f2))), (9029, (5, (.ints .u8 (getBlock aL aB aAt).1.f0.f5.f3))), (10029, (24, (.bss (getBlock aL aB aAt).1.f0.f5.f4))), (11029, (24, (.bss (getBlock aL aB aAt).1.f1))), (1034, (5, (.ints .u8 aB))), (4040, (5, (.ints .u8 (getBlock aL aB aAt).1.f0.f3))), (5040, (5, (.ints .u8 (getBlock aL aB aAt).1.f0.f4))), (8040, (5, (.ints .u8 (getBlock aL aB aAt).1.f0.f5.f2))), (9040, (5, (.ints .u8 (getBlock aL aB aAt).1.f0.f5.f3))), (10040, (24, (.bss (getBlock aL aB aAt).1.f0.f5.f4))), (11040, (24, (.bss (getBlock aL aB aAt).1.f1)))] [(3, (23, [cI aL.f0, cI aL.f1, cI aL.f2, cI aL.f3, cI aL.f4])), (11, (56, [cI (getBlock aL aB aAt).1.f0.f0, cI (getBlock aL aB aAt).1.f0.f1, cI (getBlock aL aB aAt).1.f0.f2, .row 4040 [], .row 5040 [], cI (getBlock aL aB aAt).1.f0.f5.f0, cI (getBlock aL aB aAt).1.f0.f5.f1, .row 8040 [], .row 9040 [], .row 10040 [], .row 11040 []])), (7, (56, [cI (getBlock aL aB aAt).1.f0.f0, cI (getBlock aL aB aAt).1.f0.f1, cI (getBlock aL aB aAt).1.f0.f2, .row 4029 [], .row 5029 [], cI (getBlock aL aB aAt).1.f0.f5.f0, cI (getBlock aL aB aAt).1.f0.f5.f1, .row 8029 [], .row 9029 [], .row 10029 [], .row 11029 []]))] ?_
 refine T.cf ?_
 refine T.skip ?_
 refine T.seq ?_
 refine T.seq ?_
 refine T.region ?_
 refine TL.mv (.one (.row 1034 [])) ?_
 refine TL.mv (pS aB) ?_
 refine TL.c (Step.cl (xs := [.tmp 59]) (ps := [(pS aB)]) (g := .func 18) false (.cons (.one (.d _)) .nil) (ok_laws_toByteS aB (by first | omega | assumption | exact mem_getD h0_.2 (by omega)))) ?_
 refine TL.c (Step.cl (xs := [.tmp 58, .tmp 60]) (ps := [(.one (.row 1034 [])), (.one (.row 1060 []))]) (g := .func 21) false (.cons (.one (.row rfl rfl rfl rfl)) (.cons (.one (.row rfl rfl rfl rfl)) .nil)) (ok_laws_eqByteS aB aB)) ?_
 refine TL.known 61 (c := true) (by simp) rfl ?_
 refine TL.c (Step.not (b := true) rfl rfl (lt_ok rfl) rfl) ?_
 refine TL.nil ?_
 refine T.cf ?_
 refine T.skip ?_
 refine T.seq ?_
 refine T.region ?_
 refine TL.as (pI 1) ?_
 refine TL.nil ?_
 refine T.seq ?_
 refine T.region ?_
 refine TL.mv (.one (.row 1034 [])) ?_
 refine TL.mv (pI 1) ?_
 refine TL.c (Step.callM2 (xs := [.tmp 63, .tmp 64]) (ps := [(.one (.row 1034 [])), (pI 1)]) (js := [(1034, (.ints .u8 (mkB aB 1)))]) (g := .func 23) (ok_laws_markByteS aB 1 (by omega) (by first | omega | (have := (by assumption); omega))) rfl rfl (lt_ok rfl) rfl (by kernel_rfl) rfl rfl (.row (T := 5) (d := (.ints .u8 aB)) (e' := (.ints .u8 (mkB aB 1))) (d' := (.ints .u8 (mkB aB 1))) rfl rfl rfl rfl rfl (by simp [D.size, mkL_length]) rfl rfl (.d .nil)) rfl) ?_
 refine TL.as (pI (1 + (aB.length : Int))) ?_
 refine TL.nil ?_
 refine T.seq ?_
 refine T.seq ?_
 refine T.region ?_
 refine TL.mv (pI (1 + (aB.length : Int))) ?_
 refine TL.b _ (Bin.lss (k := .i64) (a := (1 + (aB.length : Int))) (b := 0)) ?_
 refine TL.known 67 (c := false) (decide_eq_false (by omega)) rfl ?_
 refine TL.mv (pB false) ?_
 refine TL.gy 68 (Step.lba 11 [cI (getBlock aL aB aAt).1.f0.f0, cI (getBlock aL aB aAt).1.f0.f1, cI (getBlock aL aB aAt).1.f0.f2, .row 4040 [], .row 5040 [], cI (getBlock aL aB aAt).1.f0.f5.f0, cI (getBlock aL aB aAt).1.f0.f5.f1, .row 8040 [], .row 9040 [], .row 10040 [], .row 11040 []]) ?_
 refine TL.gy 68 (Step.lba 11 [cI (getBlock aL aB aAt).1.f0.f0, cI (getBlock aL aB aAt).1.f0.f1, cI (getBlock aL aB aAt).1.f0.f2, .row 4029 [], .row 5029 [], cI (getBlock aL aB aAt).1.f0.f5.f0, cI (getBlock aL aB aAt).1.f0.f5.f1, .row 8029 [], .row 9029 [], .row 10029 [], .row 11029 []]) ?_
 refine TL.gy 68 (Step.cl (xs := [.tmp 69, .tmp 70]) (ps := [(.agg [cI (getBlock aL aB aAt).1.f0.f0, cI (getBlock aL aB aAt).1.f0.f1, cI (getBlock aL aB aAt).1.f0.f2, .row 4040 [], .row 5040 [], cI (getBlock aL aB aAt).1.f0.f5.f0, cI (getBlock aL aB aAt).1.f0.f5.f1, .row 8040 [], .row 9040 [], .row 10040 [], .row 11040 []]), (.agg [cI (getBlock aL aB aAt).1.f0.f0, cI (getBlock aL aB aAt).1.f0.f1, cI (getBlock aL aB aAt).1.f0.f2, .row 4029 [], .row 5029 [], cI (getBlock aL aB aAt).1.f0.f5.f0, cI (getBlock aL aB aAt).1.f0.f5.f1, .row 8029 [], .row 9029 [], .row 10029 [], .row 11029 []])]) (g := .func 30) false (.cons (.agg (.cons (.d _) (.cons (.d _) (.cons (.d _) (.cons (.row rfl rfl rfl rfl) (.cons (.row rfl rfl rfl rfl) (.cons (.d _) (.cons (.d _) (.cons (.row rfl rfl rfl rfl) (.cons (.row rfl rfl rfl rfl) (.cons (.row rfl rfl rfl rfl) (.cons (.row rfl rfl rfl rfl) .nil)))))))))))) (.cons (.agg (.cons (.d _) (.cons (.d _) (.cons (.d _) (.cons (.row rfl rfl rfl rfl) (.cons (.row rfl rfl rfl rfl) (.cons (.d _) (.cons (.d _) (.cons (.row rfl rfl rfl rfl) (.cons (.row rfl rfl rfl rfl) (.cons (.row rfl rfl rfl rfl) (.cons (.row rfl rfl rfl rfl) .nil)))))))))))) .nil)) (ok_laws_eqBlock (getBlock aL aB aAt).1 (getBlock aL aB aAt).1)) ?_
 refine TL.known 71 (c := true) (by simp) rfl ?_
 refine TL.gy 68 (Step.not (b := true) rfl rfl (lt_ok rfl) rfl) ?_
 refine TL.pk false (pB false) ?_
 refine TL.mv (pB false) ?_
 refine TL.gm 74 (pI (getBlock aL aB aAt).2.1) ?_
 refine TL.gm 74 (pI (getBlock aL aB aAt).2.1) ?_
 refine TL.gy 74 (Step.bin rfl rfl (lt_ok rfl) rfl rfl (Bin.neq (k := .i64) (a := (getBlock aL aB aAt).2.1) (b := (getBlock aL aB aAt).2.1))) ?_
 refine TL.known 77 (c := false) (by simp) rfl ?_
 refine TL.pk false (pB false) ?_
 refine TL.mv (pB false) ?_
 refine TL.gm 79 (pI (getBlock aL aB aAt).2.2) ?_
 refine TL.gm 79 (pI (getBlock aL aB aAt).2.2) ?_
 refine TL.gy 79 (Step.bin rfl rfl (lt_ok rfl) rfl rfl (Bin.neq (k := .i64) (a := (getBlock aL aB aAt).2.2) (b := (getBlock aL aB aAt).2.2))) ?_
 refine TL.known 82 (c := false) (by simp) rfl ?_
 refine TL.pk false (pB false) ?_
 refine TL.nil ?_
 refine T.cf ?_
 refine T.skip ?_
 refine T.seq ?_
 refine T.region ?_
 refine TL.as (pI 1) ?_
 refine TL.nil ?_
 refine T.seq ?_
 refine T.region ?_
 refine TL.c (Step.lba 11 [cI (getBlock aL aB aAt).1.f0.f0, cI (getBlock aL aB aAt).1.f0.f1, cI (getBlock aL aB aAt).1.f0.f2, .row 4040 [], .row 5040 [], cI (getBlock aL aB aAt).1.f0.f5.f0, cI (getBlock aL aB aAt).1.f0.f5.f1, .row 8040 [], .row 9040 [], .row 10040 [], .row 11040 []]) ?_
 refine TL.mv (pI 1) ?_
 have nn4 := SBlock.cm_nn (getBlock aL aB aAt).1
 refine TL.c (Step.callM2 (xs := [.tmp 84, .tmp 85]) (ps := [(.agg [cI (getBlock aL aB aAt).1.f0.f0, cI (getBlock aL aB aAt).1.f0.f1, cI (getBlock aL aB aAt).1.f0.f2, .row 4040 [], .row 5040 [], cI (getBlock aL aB aAt).1.f0.f5.f0, cI (getBlock aL aB aAt).1.f0.f5.f1, .row 8040 [], .row 9040 [], .row 10040 [], .row 11040 []]), (pI 1)]) (js := [(4040, (.ints .u8 (mkB (getBlock aL aB aAt).1.f0.f3 1))), (5040, (.ints .u8 (mkB (getBlock aL aB aAt).1.f0.f4 (1 + ((getBlock aL aB aAt).1.f0.f3.length : Int))))), (8040, (.ints .u8 (mkB (getBlock aL aB aAt).1.f0.f5.f2 ((1 + ((getBlock aL aB aAt).1.f0.f3.length : Int)) + ((getBlock aL aB aAt).1.f0.f4.length : Int))))), (9040, (.ints .u8 (mkB (getBlock aL aB aAt).1.f0.f5.f3 (((1 + ((getBlock aL aB aAt).1.f0.f3.length : Int)) + ((getBlock aL aB aAt).1.f0.f4.length : Int)) + ((getBlock aL aB aAt).1.f0.f5.f2.length : Int))))), (10040, (.bss (mkBs (getBlock aL aB aAt).1.f0.f5.f4 ((((1 + ((getBlock aL aB aAt).1.f0.f3.length : Int)) + ((getBlock aL aB aAt).1.f0.f4.length : Int)) + ((getBlock aL aB aAt).1.f0.f5.f2.length : Int)) + ((getBlock aL aB aAt).1.f0.f5.f3.length : Int))))), (11040, (.bss (mkBs (getBlock aL aB aAt).1.f1 (1 + (getBlock aL aB aAt).1.f0.cm))))]) (g := .func 31) (ok_laws_markBlock (getBlock aL aB aAt).1 1 (by omega) (by first | omega | (have := SBlock.cm_le (x := (getBlock aL aB aAt).1) (by assumption); omega))) rfl rfl (lt_ok rfl) rfl (by kernel_rfl) rfl rfl (.d (.d (.d (.row (T := 5) (d := (.ints .u8 (getBlock aL aB aAt).1.f0.f3)) (e' := (.ints .u8 (mkB (getBlock aL aB aAt).1.f0.f3 1))) (d' := (.ints .u8 (mkB (getBlock aL aB aAt).1.f0.f3 1))) rfl rfl rfl rfl rfl (by simp [D.size, mkL_length]) rfl rfl (.row (T := 5) (d := (.ints .u8 (getBlock aL aB aAt).1.f0.f4)) (e' := (.ints .u8 (mkB (getBlock aL aB aAt).1.f0.f4 (1 + ((getBlock aL aB aAt).1.f0.f3.length : Int))))) (d' := (.ints .u8 (mkB (getBlock aL aB aAt).1.f0.f4 (1 + ((getBlock aL aB aAt).1.f0.f3.length : Int))))) rfl rfl rfl rfl rfl (by simp [D.size, mkL_length]) rfl rfl (.d (.d (.row (T := 5) (d := (.ints .u8 (getBlock aL aB aAt).1.f0.f5.f2)) (e' := (.ints .u8 (mkB (getBlock aL aB aAt).1.f0.f5.f2 ((1 + ((getBlock aL aB aAt).1.f0.f3.length : Int)) + ((getBlock aL aB aAt).1.f0.f4.length : Int))))) (d' := (.ints .u8 (mkB (getBlock aL aB aAt).1.f0.f5.f2 ((1 + ((getBlock aL aB aAt).1.f0.f3.length : Int)) + ((getBlock aL aB aAt).1.f0.f4.length : Int))))) rfl rfl rfl rfl rfl (by simp [D.size, mkL_length]) rfl rfl (.row (T := 5) (d := (.ints .u8 (getBlock aL aB aAt).1.f0.f5.f3)) (e' := (.ints .u8 (mkB (getBlock aL aB aAt).1.f0.f5.f3 (((1 + ((getBlock aL aB aAt).1.f0.f3.length : Int)) + ((getBlock aL aB aAt).1.f0.f4.length : Int)) + ((getBlock aL aB aAt).1.f0.f5.f2.length : Int))))) (d' := (.ints .u8 (mkB (getBlock aL aB aAt).1.f0.f5.f3 (((1 + ((getBlock aL aB aAt).1.f0.f3.length : Int)) + ((getBlock aL aB aAt).1.f0.f4.length : Int)) + ((getBlock aL aB aAt).1.f0.f5.f2.length : Int))))) rfl rfl rfl rfl rfl (by simp [D.size, mkL_length]) rfl rfl (.row (T := 24) (d := (.bss (getBlock aL aB aAt).1.f0.f5.f4)) (e' := (.bss (mkBs (getBlock aL aB aAt).1.f0.f5.f4 ((((1 + ((getBlock aL aB aAt).1.f0.f3.length : Int)) + ((getBlock aL aB aAt).1.f0.f4.length : Int)) + ((getBlock aL aB aAt).1.f0.f5.f2.length : Int)) + ((getBlock aL aB aAt).1.f0.f5.f3.length : Int))))) (d' := (.bss (mkBs (getBlock aL aB aAt).1.f0.f5.f4 ((((1 + ((getBlock aL aB aAt).1.f0.f3.length : Int)) + ((getBlock aL aB aAt).1.f0.f4.length : Int)) + ((getBlock aL aB aAt).1.f0.f5.f2.length : Int)) + ((getBlock aL aB aAt).1.f0.f5.f3.length : Int))))) rfl rfl rfl rfl rfl (by simp [D.size, mkL_length]) rfl rfl (.row (T := 24) (d := (.bss (getBlock aL aB aAt).1.f1)) (e' := (.bss (mkBs (getBlock aL aB aAt).1.f1 (1 + (getBlock aL aB aAt).1.f0.cm)))) (d' := (.bss (mkBs (getBlock aL aB aAt).1.f1 (1 + (getBlock aL aB aAt).1.f0.cm)))) rfl rfl rfl rfl rfl (by simp [D.size, mkL_length]) rfl rfl (.d .nil)))))))))))) rfl) ?_
 refine TL.as (pI (1 + (getBlock aL aB aAt).1.cm)) ?_
 refine TL.nil ?_
 refine T.wk [(1, (pS aB)), (2, (pI aAt)), (3, (.one (.ptr 3 0))), (6, (pB false)), (7, (.one (.ptr 7 0))), (8, (pI (getBlock aL aB aAt).2.1)), (9, (pI (getBlock aL aB aAt).2.2)), (11, (.one (.ptr 11 0))), (15, (pI (1 + (getBlock aL aB aAt).1.cm)))] [(4029, (5, (.ints .u8 (getBlock aL aB aAt).1.f0.f3))), (5029, (5, (.ints .u8 (getBlock aL aB aAt).1.f0.f4))), (8029, (5, (.ints .u8 (getBlock aL aB aAt).1.f0.f5.f2))), (9029, (5, (.ints .u8 (getBlock aL aB aAt).1.f0.f5.f3))), (10029, (24, (.bss (getBlock aL aB aAt).1.f0.f5.f4))), (11029, (24, (.bss (getBlock aL aB aAt).1.f1))), (4040, (5, (.ints .u8 (mkB (getBlock aL aB aAt).1.f0.f3 1)))), (5040, (5, (.ints .u8 (mkB (getBlock aL aB aAt).1.f0.f4 (1 + ((getBlock aL aB aAt).1.f0.f3.length : Int)))))), (8040, (5, (.ints .u8 (mkB (getBlock aL aB aAt).1.f0.f5.f2 ((1 + ((getBlock aL aB aAt).1.f0.f3.length : Int)) + ((getBlock aL aB aAt).1.f0.f4.length : Int)))))), (9040, (5, (.ints .u8 (mkB (getBlock aL aB aAt).1.f0.f5.f3 (((1 + ((getBlock aL aB aAt).1.f0.f3.length : Int)) + ((getBlock aL aB aAt).1.f0.f4.length : Int)) + ((getBlock aL aB aAt).1.f0.f5.f2.length : Int)))))), (10040, (24, (.bss (mkBs (getBlock aL aB aAt).1.f0.f5.f4 ((((1 + ((getBlock aL aB aAt).1.f0.f3.length : Int)) + ((getBlock aL aB aAt).1.f0.f4.length : Int)) + ((getBlock aL aB aAt).1.f0.f5.f2.length : Int)) + ((getBlock aL aB aAt).1.f0.f5.f3.length : Int)))))), (11040, (24, (.bss (mkBs (getBlock aL aB aAt).1.f1 (1 + (getBlock aL aB aAt).1.f0.cm)))))] [(3, (23, [cI aL.f0, cI aL.f1, cI aL.f2, cI aL.f3, cI aL.f4])), (11, (56, [cI (getBlock aL aB aAt).1.f0.f0, cI (getBlock aL aB aAt).1.f0.f1, cI (getBlock aL aB aAt).1.f0.f2, .row 4040 [], .row 5040 [], cI (getBlock aL aB aAt).1.f0.f5.f0, cI (getBlock aL aB aAt).1.f0.f5.f1, .row 8040 [], .row 9040 [], .row 10040 [], .row 11040 []])), (7, (56, [cI (getBlock aL aB aAt).1.f0.f0, cI (getBlock aL aB aAt).1.f0.f1, cI (getBlock aL aB aAt).1.f0.f2, .row 4029 [], .row 5029 [], cI (getBlock aL aB aAt).1.f0.f5.f0, cI (getBlock aL aB aAt).1.f0.f5.f1, .row 8029 [], .row 9029 [], .row 10029 [], .row 11029 []]))] ?_
 refine T.seq ?_
 refine T.region ?_
 refine TL.as (pI 1) ?_
 refine TL.nil ?_
 refine T.seq ?_
 refine T.region ?_
 refine TL.c (Step.lba 11 [cI (getBlock aL aB aAt).1.f0.f0, cI (getBlock aL aB aAt).1.f0.f1, cI (getBlock aL aB aAt).1.f0.f2, .row 4040 [], .row 5040 [], cI (getBlock aL aB aAt).1.f0.f5.f0, cI (getBlock aL aB aAt).1.f0.f5.f1, .row 8040 [], .row 9040 [], .row 10040 [], .row 11040 []]) ?_
 refine TL.mv (pI 1) ?_
 have nn5 := SBlock.cm_nn (getBlock aL aB aAt).1
 refine TL.c (Step.cl (xs := [.tmp 87, .tmp 88]) (ps := [(.agg [cI (getBlock aL aB aAt).1.f0.f0, cI (getBlock aL aB aAt).1.f0.f1, cI (getBlock aL aB aAt).1.f0.f2, .row 4040 [], .row 5040 [], cI (getBlock aL aB aAt).1.f0.f5.f0, cI (getBlock aL aB aAt).1.f0.f5.f1, .row 8040 [], .row 9040 [], .row 10040 [], .row 11040 []]), (pI 1)]) (g := .func 47) false (.cons (.agg (.cons (.d _) (.cons (.d _) (.cons (.d _) (.cons (.row rfl rfl rfl rfl) (.cons (.row rfl rfl rfl rfl) (.cons (.d _) (.cons (.d _) (.cons (.row rfl rfl rfl rfl) (.cons (.row rfl rfl rfl rfl) (.cons (.row rfl rfl rfl rfl) (.cons (.row rfl rfl rfl rfl) .nil)))))))))))) (.cons (.one (.d _)) .nil)) (ok_laws_heldBlock (getBlock aL aB aAt).1 (⟨(⟨(getBlock aL aB aAt).1.f0.f0, (getBlock aL aB aAt).1.f0.f1, (getBlock aL aB aAt).1.f0.f2, mkB (getBlock aL aB aAt).1.f0.f3 1, mkB (getBlock aL aB aAt).1.f0.f4 (1 + ((getBlock aL aB aAt).1.f0.f3.length : Int)), (⟨(getBlock aL aB aAt).1.f0.f5.f0, (getBlock aL aB aAt).1.f0.f5.f1, mkB (getBlock aL aB aAt).1.f0.f5.f2 ((1 + ((getBlock aL aB aAt).1.f0.f3.length : Int)) + ((getBlock aL aB aAt).1.f0.f4.length : Int)), mkB (getBlock aL aB aAt).1.f0.f5.f3 (((1 + ((getBlock aL aB aAt).1.f0.f3.length : Int)) + ((getBlock aL aB aAt).1.f0.f4.length : Int)) + ((getBlock aL aB aAt).1.f0.f5.f2.length : Int)), mkBs (getBlock aL aB aAt).1.f0.f5.f4 ((((1 + ((getBlock aL aB aAt).1.f0.f3.length : Int)) + ((getBlock aL aB aAt).1.f0.f4.length : Int)) + ((getBlock aL aB aAt).1.f0.f5.f2.length : Int)) + ((getBlock aL aB aAt).1.f0.f5.f3.length : Int))⟩ : SQc)⟩ : SHead), mkBs (getBlock aL aB aAt).1.f1 (1 + (getBlock aL aB aAt).1.f0.cm)⟩ : SBlock) 1 (by omega) (by first | omega | (have := SBlock.cm_le (x := (getBlock aL aB aAt).1) (by assumption); omega)) (by first | rfl | assumption | (repeat' (first | rfl | apply And.intro))))) ?_
 refine TL.as (pI (1 + (getBlock aL aB aAt).1.cm)) ?_
 refine TL.nil ?_
 refine T.seq ?_
 refine T.seq ?_
 refine T.region ?_
 refine TL.mv (pI (1 + (getBlock aL aB aAt).1.cm)) ?_
 refine TL.b _ (Bin.lss (k := .i64) (a := (1 + (getBlock aL aB aAt).1.cm)) (b := 0)) ?_
 refine TL.known 91 (c := false) (decide_eq_false (by omega)) rfl ?_
 refine TL.nil ?_
 refine T.cf ?_
 refine T.skip ?_
 refine T.seq ?_
 refine T.seq ?_
 refine T.region ?_
 refine TL.mv (pI (1 + (getBlock aL aB aAt).1.cm)) ?_
 refine TL.mv (pI (1 + (getBlock aL aB aAt).1.cm)) ?_
 refine TL.b _ (Bin.neq (k := .i64) (a := (1 + (getBlock aL aB aAt).1.cm)) (b := (1 + (getBlock aL aB aAt).1.cm))) ?_
 refine TL.known 94 (c := false) (by simp) rfl ?_
 refine TL.nil ?_
 refine T.cf ?_
 refine T.skip ?_
 refine T.seq ?_
 refine T.region ?_
 refine TL.c (Step.lba 5 [cI aL.f0, cI aL.f1, cI aL.f2, cI aL.f3, cI aL.f4]) ?_
 refine TL.c (Step.cl (xs := [.tmp 96]) (ps := [(.agg [cI aL.f0, cI aL.f1, cI aL.f2, cI aL.f3, cI aL.f4])]) (g := .func 17) false (.cons (.agg (.cons (.d _) (.cons (.d _) (.cons (.d _) (.cons (.d _) (.cons (.d _) .nil)))))) .nil) (ok_laws_toLimits aL)) ?_
 refine TL.mv (pS aB) ?_
 refine TL.c (Step.cl (xs := [.tmp 98]) (ps := [(pS aB)]) (g := .func 18) false (.cons (.one (.d _)) .nil) (ok_laws_toByteS aB (by first | omega | assumption | exact mem_getD h0_.2 (by omega)))) ?_
 refine TL.mv (pI aAt) ?_
 have nn6 := @getBlock_sm aL aB aAt (by first | assumption | omega)
 refine TL.c (Step.cl (xs := [.tmp 97, .tmp 99, .tmp 100]) (ps := [(.agg [cI aL.f0, cI aL.f1, cI aL.f2, cI aL.f3, cI aL.f4]), (.one (.row 1099 [])), (pI aAt)]) (g := .func 46) false (.cons (.agg (.cons (.d _) (.cons (.d _) (.cons (.d _) (.cons (.d _) (.cons (.d _) .nil)))))) (.cons (.one (.row rfl rfl rfl rfl)) (.cons (.one (.d _)) .nil))) (ok_impl_GetBlock aL aB aAt (by assumption) (by first | omega | assumption | (simp only [List.length_append] at *; omega)))) ?_
 refine TL.mv (.tup [(true, [cI (getBlock aL aB aAt).1.f0.f0, cI (getBlock aL aB aAt).1.f0.f1, cI (getBlock aL aB aAt).1.f0.f2, .row 4101 [], .row 5101 [], cI (getBlock aL aB aAt).1.f0.f5.f0, cI (getBlock aL aB aAt).1.f0.f5.f1, .row 8101 [], .row 9101 [], .row 10101 [], .row 11101 []]), (false, [cI (getBlock aL aB aAt).2.1]), (false, [cI (getBlock aL aB aAt).2.2])]) ?_
 refine TL.c (Step.extract (p := (.agg [cI (getBlock aL aB aAt).1.f0.f0, cI (getBlock aL aB aAt).1.f0.f1, cI (getBlock aL aB aAt).1.f0.f2, .row 4101 [], .row 5101 [], cI (getBlock aL aB aAt).1.f0.f5.f0, cI (getBlock aL aB aAt).1.f0.f5.f1, .row 8101 [], .row 9101 [], .row 10101 [], .row 11101 []])) rfl rfl (lt_ok rfl) rfl rfl) ?_
 refine TL.c (Step.extract (p := (pI (getBlock aL aB aAt).2.1)) rfl rfl (lt_ok rfl) rfl rfl) ?_
 refine TL.c (Step.extract (p := (pI (getBlock aL aB aAt).2.2)) rfl rfl (lt_ok rfl) rfl rfl) ?_
 refine TL.c (Step.al [cI 0, cI 0, cI 0, .nil, .nil, cI 0, cI 0, .nil, .nil, .nil, .nil]) ?_
 refine TL.c (Step.sb 11 [cI (getBlock aL aB aAt).1.f0.f0, cI (getBlock aL aB aAt).1.f0.f1, cI (getBlock aL aB aAt).1.f0.f2, .row 4101 [], .row 5101 [], cI (getBlock aL aB aAt).1.f0.f5.f0, cI (getBlock aL aB aAt).1.f0.f5.f1, .row 8101 [], .row 9101 [], .row 10101 [], .row 11101 []]) ?_
 refine TL.as (pI (getBlock aL aB aAt).2.1) ?_
 refine TL.as (pI (getBlock aL aB aAt).2.2) ?_
 refine TL.nil ?_
 refine T.wk [(6, (pB false)), (7, (.one (.ptr 7 0))), (8, (pI (getBlock aL aB aAt).2.1)), (9, (pI (getBlock aL aB aAt).2.2)), (11, (.one (.ptr 11 0))), (15, (pI (1 + (getBlock aL aB aAt).1.cm))), (16, (pI (1 + (getBlock aL aB aAt).1.cm))), (17, (.one (.ptr 17 0))), (18, (pI (getBlock aL aB aAt).2.1)), (19, (pI (getBlock aL aB aAt).2.2))] [(4029, (5, (.ints .u8 (getBlock aL aB aAt).1.f0.f3))), (5029, (5, (.ints .u8 (getBlock aL aB aAt).1.f0.f4))), (8029, (5, (.ints .u8 (getBlock aL aB aAt).1.f0.f5.f2))), (9029, (5, (.ints .u8 (getBlock aL aB aAt).1.f0.f5.f3))), (10029, (24, (.bss (getBlock aL aB aAt).1.f0.f5.f4))), (11029, (24, (.bss (getBlock aL aB aAt).1.f1))), (4040, (5, (.ints .u8 (mkB (getBlock aL aB aAt).1.f0.f3 1)))), (5040, (5, (.ints .u8 (mkB (getBlock aL aB aAt).1.f0.f4 (1 + ((getBlock aL aB aAt).1.f0.f3.length : Int)))))), (8040, (5, (.ints .u8 (mkB (getBlock aL aB aAt).1.f0.f5.f2 ((1 + ((getBlock aL aB aAt).1.f0.f3.length : Int)) + ((getBlock aL aB aAt).1.f0.f4.length : Int)))))), (9040, (5, (.ints .u8 (mkB (getBlock aL aB aAt).1.f0.f5.f3 (((1 + ((getBlock aL aB aAt).1.f0.f3.length : Int)) + ((getBlock aL aB aAt).1.f0.f4.length : Int)) + ((getBlock aL aB aAt).1.f0.f5.f2.length : Int)))))), (10040, (24, (.bss (mkBs (getBlock aL aB aAt).1.f0.f5.f4 ((((1 + ((getBlock aL aB aAt).1.f0.f3.length : Int)) + ((getBlock aL aB aAt).1.f0.f4.length : Int)) + ((getBlock aL aB aAt).1.f0.f5.f2.length : Int)) + ((getBlock aL aB aAt).1.f0.f5.f3.length : Int)))))), (11040, (24, (.bss (mkBs (getBlock aL aB aAt).1.f1 (1 + (getBlock aL aB aAt).1.f0.cm))))), (4101, (5, (.ints .u8 (getBlock aL aB aAt).1.f0.f3))), (5101, (5, (.ints .u8 (getBlock aL aB aAt).1.f0.f4))), (8101, (5, (.ints .u8 (getBlock aL aB aAt).1.f0.f5.f2))), (9101, (5, (.ints .u8 (getBlock aL aB aAt).1.f0.f5.f3))), (10101, (24, (.bss (getBlock aL aB aAt).1.f0.f5.f4))), (11101, (24, (.bss (getBlock aL aB aAt).1.f1)))] [(17, (56, [cI (getBlock aL aB aAt).1.f0.f0, cI (getBlock aL aB aAt).1.f0.f1, cI (getBlock aL aB aAt).1.f0.f2, .row 4101 [], .row 5101 [], cI (getBlock aL aB aAt).1.f0.f5.f0, cI (getBlock aL aB aAt).1.f0.f5.f1, .row 8101 [], .row 9101 [], .row 10101 [], .row 11101 []])), (11, (56, [cI (getBlock aL aB aAt).1.f0.f0, cI (getBlock aL aB aAt).1.f0.f1, cI (getBlock aL aB aAt).1.f0.f2, .row 4040 [], .row 5040 [], cI (getBlock aL aB aAt).1.f0.f5.f0, cI (getBlock aL aB aAt).1.f0.f5.f1, .row 8040 [], .row 9040 [], .row 10040 [], .row 11040 []])), (7, (56, [cI (getBlock aL aB aAt).1.f0.f0, cI (getBlock aL aB aAt).1.f0.f1, cI (getBlock aL aB aAt).1.f0.f2, .row 4029 [], .row 5029 [], cI (getBlock aL aB aAt).1.f0.f5.f0, cI (getBlock aL aB aAt).1.f0.f5.f1, .row 8029 [], .row 9029 [], .row 10029 [], .row 11029 []]))] ?_
 refine T.seq ?_
 refine T.seq ?_
 refine T.region ?_
 refine TL.c (Step.lba 11 [cI (getBlock aL aB aAt).1.f0.f0, cI (getBlock aL aB aAt).1.f0.f1, cI (getBlock aL aB aAt).1.f0.f2, .row 4101 [], .row 5101 [], cI (getBlock aL aB aAt).1.f0.f5.f0, cI (getBlock aL aB aAt).1.f0.f5.f1, .row 8101 [], .row 9101 [], .row 10101 [], .row 11101 []]) ?_
 refine TL.c (Step.lba 11 [cI (getBlock aL aB aAt).1.f0.f0, cI (getBlock aL aB aAt).1.f0.f1, cI (getBlock aL aB aAt).1.f0.f2, .row 4029 [], .row 5029 [], cI (getBlock aL aB aAt).1.f0.f5.f0, cI (getBlock aL aB aAt).1.f0.f5.f1, .row 8029 [], .row 9029 [], .row 10029 [], .row 11029 []]) ?_
 refine TL.c (Step.cl (xs := [.tmp 105, .tmp 106]) (ps := [(.agg [cI (getBlock aL aB aAt).1.f0.f0, cI (getBlock aL aB aAt).1.f0.f1, cI (getBlock aL aB aAt).1.f0.f2, .row 4101 [], .row 5101 [], cI (getBlock aL aB aAt).1.f0.f5.f0, cI (getBlock aL aB aAt).1.f0.f5.f1, .row 8101 [], .row 9101 [], .row 10101 [], .row 11101 []]), (.agg [cI (getBlock aL aB aAt).1.f0.f0, cI (getBlock aL aB aAt).1.f0.f1, cI (getBlock aL aB aAt).1.f0.f2, .row 4029 [], .row 5029 [], cI (getBlock aL aB aAt).1.f0.f5.f0, cI (getBlock aL aB aAt).1.f0.f5.f1, .row 8029 [], .row 9029 [], .row 10029 [], .row 11029 []])]) (g := .func 30) false (.cons (.agg (.cons (.d _) (.cons (.d _) (.cons (.d _) (.cons (.row rfl rfl rfl rfl) (.cons (.row rfl rfl rfl rfl) (.cons (.d _) (.cons (.d _) (.cons (.row rfl rfl rfl rfl) (.cons (.row rfl rfl rfl rfl) (.cons (.row rfl rfl rfl rfl) (.cons (.row rfl rfl rfl rfl) .nil)))))))))))) (.cons (.agg (.cons (.d _) (.cons (.d _) (.cons (.d _) (.cons (.row rfl rfl rfl rfl) (.cons (.row rfl rfl rfl rfl) (.cons (.d _) (.cons (.d _) (.cons (.row rfl rfl rfl rfl) (.cons (.row rfl rfl rfl rfl) (.cons (.row rfl rfl rfl rfl) (.cons (.row rfl rfl rfl rfl) .nil)))))))))))) .nil)) (ok_laws_eqBlock (getBlock aL aB aAt).1 (getBlock aL aB aAt).1)) ?_
 refine TL.known 107 (c := true) (by simp) rfl ?_
 refine TL.c (Step.not (b := true) rfl rfl (lt_ok rfl) rfl) ?_
 refine TL.mv (pB false) ?_
 refine TL.gm 109 (pI (getBlock aL aB aAt).2.1) ?_
 refine TL.gm 109 (pI (getBlock aL aB aAt).2.1) ?_
 refine TL.gy 109 (Step.bin rfl rfl (lt_ok rfl) rfl rfl (Bin.neq (k := .i64) (a := (getBlock aL aB aAt).2.1) (b := (getBlock aL aB aAt).2.1))) ?_
 refine TL.known 112 (c := false) (by simp) rfl ?_
 refine TL.pk false (pB false) ?_
 refine TL.mv (pB false) ?_
 refine TL.gm 114 (pI (getBlock aL aB aAt).2.2) ?_
 refine TL.gm 114 (pI (getBlock aL aB aAt).2.2) ?_
 refine TL.gy 114 (Step.bin rfl rfl (lt_ok rfl) rfl rfl (Bin.neq (k := .i64) (a := (getBlock aL aB aAt).2.2) (b := (getBlock aL aB aAt).2.2))) ?_
 refine TL.known 117 (c := false) (by simp) rfl ?_
 refine TL.pk false (pB false) ?_
 refine TL.nil ?_
 refine T.cf ?_
 refine T.skip ?_
 refine T.seq ?_
 refine T.region ?_
 refine TL.as (pI 1) ?_
 refine TL.nil ?_
 refine T.seq ?_
 refine T.region ?_
 refine TL.c (Step.lba 11 [cI (getBlock aL aB aAt).1.f0.f0, cI (getBlock aL aB aAt).1.f0.f1, cI (getBlock aL aB aAt).1.f0.f2, .row 4040 [], .row 5040 [], cI (getBlock aL aB aAt).1.f0.f5.f0, cI (getBlock aL aB aAt).1.f0.f5.f1, .row 8040 [], .row 9040 [], .row 10040 [], .row 11040 []]) ?_
 refine TL.mv (pI 1) ?_
 have nn7 := SBlock.cm_nn (getBlock aL aB aAt).1
 refine TL.c (Step.cl (xs := [.tmp 119, .tmp 120]) (ps := [(.agg [cI (getBlock aL aB aAt).1.f0.f0, cI (getBlock aL aB aAt).1.f0.f1, cI (getBlock aL aB aAt).1.f0.f2, .row 4040 [], .row 5040 [], cI (getBlock aL aB aAt).1.f0.f5.f0, cI (getBlock aL aB aAt).1.f0.f5.f1, .row 8040 [], .row 9040 [], .row 10040 [], .row 11040 []]), (pI 1)]) (g := .func 47) false (.cons (.agg (.cons (.d _) (.cons (.d _) (.cons (.d _) (.cons (.row rfl rfl rfl rfl) (.cons (.row rfl rfl rfl rfl) (.cons (.d _) (.cons (.d _) (.cons (.row rfl rfl rfl rfl) (.cons (.row rfl rfl rfl rfl) (.cons (.row rfl rfl rfl rfl) (.cons (.row rfl rfl rfl rfl) .nil)))))))))))) (.cons (.one (.d _)) .nil)) (ok_laws_heldBlock (getBlock aL aB aAt).1 (⟨(⟨(getBlock aL aB aAt).1.f0.f0, (getBlock aL aB aAt).1.f0.f1, (getBlock aL aB aAt).1.f0.f2, mkB (getBlock aL aB aAt).1.f0.f3 1, mkB (getBlock aL aB aAt).1.f0.f4 (1 + ((getBlock aL aB aAt).1.f0.f3.length : Int)), (⟨(getBlock aL aB aAt).1.f0.f5.f0, (getBlock aL aB aAt).1.f0.f5.f1, mkB (getBlock aL aB aAt).1.f0.f5.f2 ((1 + ((getBlock aL aB aAt).1.f0.f3.length : Int)) + ((getBlock aL aB aAt).1.f0.f4.length : Int)), mkB (getBlock aL aB aAt).1.f0.f5.f3 (((1 + ((getBlock aL aB aAt).1.f0.f3.length : Int)) + ((getBlock aL aB aAt).1.f0.f4.length : Int)) + ((getBlock aL aB aAt).1.f0.f5.f2.length : Int)), mkBs (getBlock aL aB aAt).1.f0.f5.f4 ((((1 + ((getBlock aL aB aAt).1.f0.f3.length : Int)) + ((getBlock aL aB aAt).1.f0.f4.length : Int)) + ((getBlock aL aB aAt).1.f0.f5.f2.length : Int)) + ((getBlock aL aB aAt).1.f0.f5.f3.length : Int))⟩ : SQc)⟩ : SHead), mkBs (getBlock aL aB aAt).1.f1 (1 + (getBlock aL aB aAt).1.f0.cm)⟩ : SBlock) 1 (by omega) (by first | omega | (have := SBlock.cm_le (x := (getBlock aL aB aAt).1) (by assumption); omega)) (by first | rfl | assumption | (repeat' (first | rfl | apply And.intro))))) ?_
 refine TL.as (pI (1 + (getBlock aL aB aAt).1.cm)) ?_
 refine TL.nil ?_
 refine T.seq ?_
 refine T.seq ?_
 refine T.region ?_
 refine TL.mv (pI (1 + (getBlock aL aB aAt).1.cm)) ?_
 refine TL.b _ (Bin.lss (k := .i64) (a := (1 + (getBlock aL aB aAt).1.cm)) (b := 0)) ?_
 refine TL.known 123 (c := false) (decide_eq_false (by omega)) rfl ?_
 refine TL.nil ?_
 refine T.cf ?_
 refine T.skip ?_
 refine T.seq ?_
 refine T.seq ?_
 refine T.region ?_
 refine TL.mv (pI (1 + (getBlock aL aB aAt).1.cm)) ?_
 refine TL.mv (pI (1 + (getBlock aL aB aAt).1.cm)) ?_
 refine TL.b _ (Bin.neq (k := .i64) (a := (1 + (getBlock aL aB aAt).1.cm)) (b := (1 + (getBlock aL aB aAt).1.cm))) ?_
 refine TL.known 126 (c := false) (by simp) rfl ?_
 refine TL.nil ?_
 refine T.wk [(6, (pB false)), (126, (pB false))] [] [] ?_
 refine T.cf ?_
 refine T.skip ?_
 refine T.seq ?_
 refine T.region ?_
 refine TL.as (pB true) ?_
 refine TL.nil ?_
 refine T.ret ?_
 exact ⟨[(false, [.d (.bool true)])], (.cons rfl .nil), rfl, [], (RetC.rd' rfl .nil)⟩
end Go.Proofs.Ytlcmflenbddliaa.Rf
