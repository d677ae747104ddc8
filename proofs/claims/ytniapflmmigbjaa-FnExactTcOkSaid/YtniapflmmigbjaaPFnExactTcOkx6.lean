-- by a program of this session (wip/gen), out of the translation. Not trusted: Lean checks it.
import Derived.Test.YtniapflmmigbjaaPFnExactTcOkx0
import Derived.Test.YtniapflmmigbjaaPFnExactTcOkx1
import Derived.Test.YtniapflmmigbjaaPFnExactTcOkx2
import Derived.Test.YtniapflmmigbjaaPFnExactTcOkx3
import Derived.Test.YtniapflmmigbjaaPFnExactTcOkx4
import Derived.Test.YtniapflmmigbjaaPFnExactTcOkx5
namespace Go.Proofs.Ytniapflmmigbjaa.PFnExactTcOk
open Go.RowKit Go.Proofs.YtniapflmmigbjaaW.PrintWords Go.Proofs.YtniapflmmigbjaaW.PrintLast Go.Proofs.YtniapflmmigbjaaW.PrintMore
attribute [local go_sem] max2_int min2_int max_two min_two max_three min_three max_four min_four   -- for this text's walks alone
set_option linter.unusedVariables false
set_option linter.unusedSimpArgs false

/-! ### laws_FnExactTcOk: function 3 -/
def laws_FnExactTcOk.f (k : Nat) (a0_0 : Int) (a0_1 : Int) (a0_2 : Int) (a0_3 : Int) (a0_4 : Int) (a1_0 : Int) (l1_1 : List (S156)) : Option (Bool) := (laws_szTc.f k a1_0 l1_1 1048576).bind fun t193 => (if t193 < 0 then (some true) else ((laws_toLimits.f a0_0 a0_1 a0_2 a0_3 a0_4).bind fun bt194 => ((laws_toTc.f k a1_0 l1_1).bind fun bt199 => ((spec_TcOk.f k bt194.1 bt194.2.1 bt194.2.2.1 bt194.2.2.2.1 bt194.2.2.2.2 bt199.1 bt199.2).bind fun t203 => ((laws_toTc.f k a1_0 l1_1).bind fun bt204 => ((laws_toLimits.f a0_0 a0_1 a0_2 a0_3 a0_4).bind fun bt209 => ((impl_TcOk.f k bt209.1 bt209.2.1 bt209.2.2.1 bt209.2.2.2.1 bt209.2.2.2.2 bt204.1 bt204.2).bind fun t214 => (if (t214 != t203) = true then (none) else ((laws_toTc.f k a1_0 l1_1).bind fun bt215 => ((laws_eqTc.f k bt204.1 bt204.2 bt215.1 bt215.2).bind fun t219 => (if t219 = true then (some true) else (none))))))))))))
theorem laws_FnExactTcOk.mono : ∀ a0 a1 a2 a3 a4 a5 a6 k, LeO (laws_FnExactTcOk.f k a0 a1 a2 a3 a4 a5 a6) (laws_FnExactTcOk.f (k + 1) a0 a1 a2 a3 a4 a5 a6) := by
 intro a0 a1 a2 a3 a4 a5 a6 k
 unfold laws_FnExactTcOk.f
 repeat' first
   | (with_reducible exact impl_TcOk.mono _ _ _ _ _ _ _ _)
   | (with_reducible exact laws_eqTc.mono _ _ _ _ _)
   | (with_reducible exact laws_szTc.mono _ _ _ _)
   | (with_reducible exact laws_toTc.mono _ _ _)
   | (with_reducible exact spec_TcOk.mono _ _ _ _ _ _ _ _)
   | (with_reducible exact LeO.refl _)
   | (with_reducible exact LeO.none _)
   | (with_reducible refine LeO.ite ?_ ?_)
   | (with_reducible refine LeO.bind ?_ (fun _ => ?_))
   | exact impl_TcOk.mono _ _ _ _ _ _ _ _
   | exact laws_eqTc.mono _ _ _ _ _
   | exact laws_szTc.mono _ _ _ _
   | exact laws_toTc.mono _ _ _
   | exact spec_TcOk.mono _ _ _ _ _ _ _ _
   | exact LeO.none _
   | refine LeO.ite ?_ ?_
   | refine LeO.bind ?_ (fun _ => ?_)
set_option maxHeartbeats 8000000 in
set_option maxRecDepth 100000 in
theorem laws_FnExactTcOk.calls (k : Nat) (a0_0 : Int) (a0_1 : Int) (a0_2 : Int) (a0_3 : Int) (a0_4 : Int) (a1_0 : Int) (A1_1 : Option Addr) (c1_1 : Nat) (l1_1 : List (S156)) (r : Bool) (w : World) (hr1_1 : Kd.C k156 w A1_1 l1_1.length l1_1) (hc1_1 : l1_1.length ≤ c1_1) (h : laws_FnExactTcOk.f k a0_0 a0_1 a0_2 a0_3 a0_4 a1_0 l1_1 = some r) :
  Calls Try.prog 3 #[.agg #[.int .i64 a0_0, .int .i64 a0_1, .int .i64 a0_2, .int .i64 a0_3, .int .i64 a0_4], .agg #[.int .i64 a1_0, .slice A1_1 l1_1.length c1_1]] w fun e w' => e = .returned (.bool r) ∧ Below w.heap.size w w' := by
 have hu23 := Try.underlying23
 have hu26 := Try.underlying26
 have hu33 := Try.underlying33
 have HR1_1 := Aside0.mk hr1_1
 have HC1_1 := Aside0.mk hc1_1
 clear hr1_1 hc1_1
 have HB := Aside0.mk (Below.refl w.heap.size w)
 have H : ((laws_szTc.f k a1_0 l1_1 1048576).bind fun t193 => (if t193 < 0 then (some true) else ((laws_toLimits.f a0_0 a0_1 a0_2 a0_3 a0_4).bind fun bt194 => ((laws_toTc.f k a1_0 l1_1).bind fun bt199 => ((spec_TcOk.f k bt194.1 bt194.2.1 bt194.2.2.1 bt194.2.2.2.1 bt194.2.2.2.2 bt199.1 bt199.2).bind fun t203 => ((laws_toTc.f k a1_0 l1_1).bind fun bt204 => ((laws_toLimits.f a0_0 a0_1 a0_2 a0_3 a0_4).bind fun bt209 => ((impl_TcOk.f k bt209.1 bt209.2.1 bt209.2.2.1 bt209.2.2.2.1 bt209.2.2.2.2 bt204.1 bt204.2).bind fun t214 => (if (t214 != t203) = true then (none) else ((laws_toTc.f k a1_0 l1_1).bind fun bt215 => ((laws_eqTc.f k bt204.1 bt204.2 bt215.1 bt215.2).bind fun t219 => (if t219 = true then (some true) else (none))))))))))))) = some r := h
 clear h
 replace H := Option.bind_eq_some_iff.mp H
 obtain ⟨t193, A30, H⟩ := H
 replace H : (if t193 < 0 then (some true) else ((laws_toLimits.f a0_0 a0_1 a0_2 a0_3 a0_4).bind fun bt194 => ((laws_toTc.f k a1_0 l1_1).bind fun bt199 => ((spec_TcOk.f k bt194.1 bt194.2.1 bt194.2.2.1 bt194.2.2.2.1 bt194.2.2.2.2 bt199.1 bt199.2).bind fun t203 => ((laws_toTc.f k a1_0 l1_1).bind fun bt204 => ((laws_toLimits.f a0_0 a0_1 a0_2 a0_3 a0_4).bind fun bt209 => ((impl_TcOk.f k bt209.1 bt209.2.1 bt209.2.2.1 bt209.2.2.2.1 bt209.2.2.2.2 bt204.1 bt204.2).bind fun t214 => (if (t214 != t203) = true then (none) else ((laws_toTc.f k a1_0 l1_1).bind fun bt215 => ((laws_eqTc.f k bt204.1 bt204.2 bt215.1 bt215.2).bind fun t219 => (if t219 = true then (some true) else (none)))))))))))) = some r := H
 have A3 := Aside0.mk A30
 clear A30
 have HC4 := Aside0.mk H
 clear H
 go_enter Try.func3, Try.ntmps3
 go_upto_if 13 with (first | ((with_reducible refine gate_dst (N := 2) rfl ?_); refine box_event ?hg (N := 2) ?hd (cs := #[.int .i64 a0_0, .int .i64 a0_1, .int .i64 a0_2, .int .i64 a0_3, .int .i64 a0_4]) (t := 23) ?hr ?_; (case hd => rfl); (case hg => rfl); (case hr => first | (go_simp; done) | (go_simp; rfl)); intro gb191 hg w5 hbox hb; have n0_ := Aside0.mk (below_step (by repeat (first | (with_reducible first | exact HB.out | apply below_alloc | apply pw_below_drewN | apply below_drew1) | exact HB.out)) hb); have n1_ := Aside0.mk (hbox); have n2_ := Aside0.mk ((by rw [hg]; exact (below_size (by repeat (first | (with_reducible first | exact HB.out | apply below_alloc | apply pw_below_drewN | apply below_drew1) | exact HB.out))) : w.heap.size ≤ gb191)); have n3_ := Aside0.mk ((by rw [hg]; exact (below_size (by repeat (first | (with_reducible first | exact HB.out | apply below_alloc | apply pw_below_drewN | apply below_drew1) | exact HB.out))) : w.heap.size ≤ gb191)); clear HB; have HB := n0_; have BK191 := n1_; have GW191 := n2_; have GE191 := n3_; clear n0_ n1_ n2_ n3_; clear hb hbox hg) | ((with_reducible refine gate_dst (N := 3) rfl ?_); refine box_event ?hg (N := 3) ?hd (cs := #[.int .i64 a1_0, .slice A1_1 l1_1.length c1_1]) (t := 26) ?hr ?_; (case hd => rfl); (case hg => rfl); (case hr => first | (go_simp; done) | (go_simp; rfl)); intro gb192 hg w6 hbox hb; have n0_ := Aside0.mk (blk_below (g := gb191) (o := .cells #[.int .i64 a0_0, .int .i64 a0_1, .int .i64 a0_2, .int .i64 a0_3, .int .i64 a0_4] 23 (0, 0)) (blk_mv BK191) hb); have n1_ := Aside0.mk (below_step (by repeat (first | (with_reducible first | exact HB.out | apply below_alloc | apply pw_below_drewN | apply below_drew1 | refine below_set ?_ GE191.out) | exact HB.out)) hb); have n2_ := Aside0.mk (hbox); have n3_ := Aside0.mk ((by rw [hg]; exact (below_size (by repeat (first | (with_reducible first | exact HB.out | apply below_alloc | apply pw_below_drewN | apply below_drew1 | refine below_set ?_ GE191.out) | exact HB.out))) : w.heap.size ≤ gb192)); have n4_ := Aside0.mk ((by rw [hg]; exact (below_size (by repeat (first | (with_reducible first | exact HB.out | apply below_alloc | apply pw_below_drewN | apply below_drew1 | refine below_set ?_ GE191.out) | exact HB.out))) : w.heap.size ≤ gb192)); have n5_ := Aside0.mk ((by rw [hg]; exact Nat.ne_of_lt (blk_lt (g := gb191) (o := .cells #[.int .i64 a0_0, .int .i64 a0_1, .int .i64 a0_2, .int .i64 a0_3, .int .i64 a0_4] 23 (0, 0)) (blk_mv BK191)) : gb191 ≠ gb192)); have n6_ := Aside0.mk ((by rw [hg]; exact Nat.ne_of_gt (blk_lt (g := gb191) (o := .cells #[.int .i64 a0_0, .int .i64 a0_1, .int .i64 a0_2, .int .i64 a0_3, .int .i64 a0_4] 23 (0, 0)) (blk_mv BK191)) : gb192 ≠ gb191)); clear BK191; clear HB; have BK191 := n0_; have HB := n1_; have BK192 := n2_; have GW192 := n3_; have GE192 := n4_; have NB191_192 := n5_; have NB192_191 := n6_; clear n0_ n1_ n2_ n3_ n4_ n5_ n6_; clear hb hbox hg; have hnb7 := NB192_191.out; have hnc7 := NB191_192.out; have hcz8_0 : w6.cell? ⟨gb192, 0, none⟩ = some (.int .i64 a1_0) := (blk_cell BK192.out 0).trans rfl; have hcz8_1 : w6.cell? ⟨gb192, 1, none⟩ = some (.slice A1_1 l1_1.length c1_1) := (blk_cell BK192.out 1).trans rfl; have hfz8_0 := blk_frozen BK192.out 0; have hfz8_1 := blk_frozen BK192.out 1) | ((with_reducible refine gate_callee (f := 15) rfl ?_); refine goesL_ (some 11) rfl rfl Try.func15 (by kernel_rfl) rfl #[.agg #[.int .i64 a1_0, .slice A1_1 l1_1.length c1_1], .int .i64 1048576] rfl (by (try simp only [List.map_toArray, List.map_cons, List.map_nil]); first | done | rfl | (simp only [List.length_drop, List.length_take]; rfl)) ?_; (with_reducible refine (laws_szTc.calls k a1_0 _ _ l1_1 1048576 t193 _ ?side1 ?side2 A3.out).mono ?_); (case side1 => repeat (first | exact (Kd.C_below HR1_1.out HB.out) | (with_reducible refine Kd.C_alloc ?_ _) | (with_reducible refine Kd.C_drewN ?_ _) | (with_reducible refine Kd.C_drew ?_))); (case side2 => exact HC1_1.out); rintro e w9 ⟨rfl, hb⟩; refine ⟨_, rfl, ?_⟩; have n0_ := Aside0.mk (blk_below (g := gb191) (o := .cells #[.int .i64 a0_0, .int .i64 a0_1, .int .i64 a0_2, .int .i64 a0_3, .int .i64 a0_4] 23 (0, 0)) (blk_mv BK191) hb); have n1_ := Aside0.mk (blk_below (g := gb192) (o := .cells #[.int .i64 a1_0, .slice A1_1 l1_1.length c1_1] 26 (0, 0)) (blk_mv BK192) hb); have n2_ := Aside0.mk (below_step (by repeat (first | (with_reducible first | exact HB.out | apply below_alloc | apply pw_below_drewN | apply below_drew1 | refine below_set ?_ GE191.out | refine below_set ?_ GE192.out) | exact HB.out)) hb); clear BK191; clear BK192; clear HB; have BK191 := n0_; have BK192 := n1_; have HB := n2_; clear n0_ n1_ n2_; (try clear hb); (try clear hb2); (try clear hk); (try clear hi)))
 (try simp only [Act.put, List.setIfInBounds_toArray, List.set_cons_zero, List.set_cons_succ])
 have H := HC4.out
 clear HC4
 by_cases c10 : t193 < 0
 ·rw [if_pos c10] at H
  have c10b0 : decide (t193 < 0) = true := decide_eq_true c10
  clear c10
  (first | rw [c10b0] | (simp only [i64_w, i32_w]; rw [c10b0]) | skip)
  obtain rfl := Option.some.inj H
  go_wp2
  go_ret
  exact ⟨by first | rfl | (simp [errW_none, errW_some] <;> rfl) | (simp [*, errW_none, errW_some] <;> rfl), by repeat (first | (with_reducible first | exact HB.out | apply below_alloc | apply pw_below_drewN | apply below_drew1 | refine below_set ?_ GE191.out | refine below_set ?_ GE192.out) | exact HB.out)⟩
 ·rw [if_neg c10] at H
  have c10b0 : decide (t193 < 0) = false := decide_eq_false c10
  clear c10
  (first | rw [c10b0] | (simp only [i64_w, i32_w]; rw [c10b0]) | skip)
  replace H := Option.bind_eq_some_iff.mp H
  obtain ⟨⟨t194, t195, t196, t197, t198⟩, A110, H⟩ := H
  replace H : ((laws_toTc.f k a1_0 l1_1).bind fun bt199 => ((spec_TcOk.f k t194 t195 t196 t197 t198 bt199.1 bt199.2).bind fun t203 => ((laws_toTc.f k a1_0 l1_1).bind fun bt204 => ((laws_toLimits.f a0_0 a0_1 a0_2 a0_3 a0_4).bind fun bt209 => ((impl_TcOk.f k bt209.1 bt209.2.1 bt209.2.2.1 bt209.2.2.2.1 bt209.2.2.2.2 bt204.1 bt204.2).bind fun t214 => (if (t214 != t203) = true then (none) else ((laws_toTc.f k a1_0 l1_1).bind fun bt215 => ((laws_eqTc.f k bt204.1 bt204.2 bt215.1 bt215.2).bind fun t219 => (if t219 = true then (some true) else (none)))))))))) = some r := H
  have A11 := Aside0.mk A110
  clear A110
  replace H := Option.bind_eq_some_iff.mp H
  obtain ⟨⟨t199, t200⟩, A120, H⟩ := H
  replace H : ((spec_TcOk.f k t194 t195 t196 t197 t198 t199 t200).bind fun t203 => ((laws_toTc.f k a1_0 l1_1).bind fun bt204 => ((laws_toLimits.f a0_0 a0_1 a0_2 a0_3 a0_4).bind fun bt209 => ((impl_TcOk.f k bt209.1 bt209.2.1 bt209.2.2.1 bt209.2.2.2.1 bt209.2.2.2.2 bt204.1 bt204.2).bind fun t214 => (if (t214 != t203) = true then (none) else ((laws_toTc.f k a1_0 l1_1).bind fun bt215 => ((laws_eqTc.f k bt204.1 bt204.2 bt215.1 bt215.2).bind fun t219 => (if t219 = true then (some true) else (none))))))))) = some r := H
  have A12 := Aside0.mk A120
  clear A120
  replace H := Option.bind_eq_some_iff.mp H
  obtain ⟨t203, A130, H⟩ := H
  replace H : ((laws_toTc.f k a1_0 l1_1).bind fun bt204 => ((laws_toLimits.f a0_0 a0_1 a0_2 a0_3 a0_4).bind fun bt209 => ((impl_TcOk.f k bt209.1 bt209.2.1 bt209.2.2.1 bt209.2.2.2.1 bt209.2.2.2.2 bt204.1 bt204.2).bind fun t214 => (if (t214 != t203) = true then (none) else ((laws_toTc.f k a1_0 l1_1).bind fun bt215 => ((laws_eqTc.f k bt204.1 bt204.2 bt215.1 bt215.2).bind fun t219 => (if t219 = true then (some true) else (none)))))))) = some r := H
  have A13 := Aside0.mk A130
  clear A130
  replace H := Option.bind_eq_some_iff.mp H
  obtain ⟨⟨t204, t205⟩, A140, H⟩ := H
  replace H : ((laws_toLimits.f a0_0 a0_1 a0_2 a0_3 a0_4).bind fun bt209 => ((impl_TcOk.f k bt209.1 bt209.2.1 bt209.2.2.1 bt209.2.2.2.1 bt209.2.2.2.2 t204 t205).bind fun t214 => (if (t214 != t203) = true then (none) else ((laws_toTc.f k a1_0 l1_1).bind fun bt215 => ((laws_eqTc.f k t204 t205 bt215.1 bt215.2).bind fun t219 => (if t219 = true then (some true) else (none))))))) = some r := H
  have A14 := Aside0.mk A140
  clear A140
  replace H := Option.bind_eq_some_iff.mp H
  obtain ⟨⟨t209, t210, t211, t212, t213⟩, A150, H⟩ := H
  replace H : ((impl_TcOk.f k t209 t210 t211 t212 t213 t204 t205).bind fun t214 => (if (t214 != t203) = true then (none) else ((laws_toTc.f k a1_0 l1_1).bind fun bt215 => ((laws_eqTc.f k t204 t205 bt215.1 bt215.2).bind fun t219 => (if t219 = true then (some true) else (none)))))) = some r := H
  have A15 := Aside0.mk A150
  clear A150
  replace H := Option.bind_eq_some_iff.mp H
  obtain ⟨t214, A160, H⟩ := H
  replace H : (if (t214 != t203) = true then (none) else ((laws_toTc.f k a1_0 l1_1).bind fun bt215 => ((laws_eqTc.f k t204 t205 bt215.1 bt215.2).bind fun t219 => (if t219 = true then (some true) else (none))))) = some r := H
  have A16 := Aside0.mk A160
  clear A160
  by_cases c17 : (t214 != t203) = true
  ·rw [if_pos c17] at H
   exact absurd H (by simp)
  ·rw [if_neg c17] at H
   have c17b0 : (t214 != t203) = false := by simpa using c17
   (try (have c17b1 : decide (t214 = t203) = true := by simpa using c17))
   (try (have c17b2 : (t214 == t203) = true := by simpa using c17))
   clear c17
   replace H := Option.bind_eq_some_iff.mp H
   obtain ⟨⟨t215, t216⟩, A180, H⟩ := H
   replace H : ((laws_eqTc.f k t204 t205 t215 t216).bind fun t219 => (if t219 = true then (some true) else (none))) = some r := H
   have A18 := Aside0.mk A180
   clear A180
   replace H := Option.bind_eq_some_iff.mp H
   obtain ⟨t219, A190, H⟩ := H
   replace H : (if t219 = true then (some true) else (none)) = some r := H
   have A19 := Aside0.mk A190
   clear A190
   by_cases c20 : t219 = true
   ·subst c20
    have H1 : (some true) = some r := by rw [if_pos rfl] at H; exact H
    clear H
    have H := H1
    clear H1
    obtain rfl := Option.some.inj H
    try go_wp2
    have n0_ := Aside0.mk (blk_drew BK191.out)
    have n1_ := Aside0.mk (blk_drew BK192.out)
    have n2_ := Aside0.mk (below_drew1 HB.out)
    clear BK191
    clear BK192
    clear HB
    have BK191 := n0_
    have BK192 := n1_
    have HB := n2_
    clear n0_ n1_ n2_
    refine start_ (n := 6) (S := fun w' => w'.cell? ⟨gb191, 0, none⟩ = some (.int .i64 a0_0) ∧ w'.cell? ⟨gb191, 1, none⟩ = some (.int .i64 a0_1) ∧ w'.cell? ⟨gb191, 2, none⟩ = some (.int .i64 a0_2) ∧ w'.cell? ⟨gb191, 3, none⟩ = some (.int .i64 a0_3) ∧ w'.cell? ⟨gb191, 4, none⟩ = some (.int .i64 a0_4) ∧ w'.cell? ⟨gb192, 0, none⟩ = some (.int .i64 a1_0) ∧ w'.cell? ⟨gb192, 1, none⟩ = some (.slice A1_1 l1_1.length c1_1)) (ds := []) #[false, false, false, false, false, false] (by kernel_rfl) rfl rfl ⟨(blk_cell BK191.out 0).trans rfl, (blk_cell BK191.out 1).trans rfl, (blk_cell BK191.out 2).trans rfl, (blk_cell BK191.out 3).trans rfl, (blk_cell BK191.out 4).trans rfl, (blk_cell BK192.out 0).trans rfl, (blk_cell BK192.out 1).trans rfl⟩ (fun hHeld => ?_)
    generalize w9.drew = w21 at BK191 BK192 HB hHeld ⊢
    refine take_ (i := 0) (N := some 14) (v := ?_) (a' := ?_) #[true, false, false, false, false, false] rfl rfl (by kernel_rfl) (fun _ _ _ h => h) (Or.inl ⟨by rfl, ?_⟩) hHeld ?_ ?_
    rotate_left
    ·rintro w' ⟨s0, s1, s2, s3, s4, s5, s6⟩
     go_simp
     with_reducible rfl
    rotate_left
    ·simp only [Act.put, List.setIfInBounds_toArray, List.set_cons_zero, List.set_cons_succ, i64_w, i32_w]
     rfl
    refine take_ (i := 2) (N := some 16) (v := ?_) (a' := ?_) #[true, false, true, false, false, false] rfl rfl (by kernel_rfl) (fun _ _ _ h => h) (Or.inl ⟨by rfl, ?_⟩) hHeld ?_ ?_
    rotate_left
    ·rintro w' ⟨s0, s1, s2, s3, s4, s5, s6⟩
     go_simp
     with_reducible rfl
    rotate_left
    ·simp only [Act.put, List.setIfInBounds_toArray, List.set_cons_zero, List.set_cons_succ, i64_w, i32_w]
     rfl
    refine one_ (i := 1) (N := some 15) #[true, true, true, false, false, false] rfl rfl (by kernel_rfl) (by decide) (fun K hK => ?_)
    refine goes_ Try.func17 (by kernel_rfl) rfl #[.agg #[.int .i64 a0_0, .int .i64 a0_1, .int .i64 a0_2, .int .i64 a0_3, .int .i64 a0_4]] (by rfl) rfl rfl (by (try simp only [List.map_toArray, List.map_cons, List.map_nil]); first | done | rfl | (simp only [List.length_drop, List.length_take]; rfl)) ?_
    with_reducible refine (laws_toLimits.calls a0_0 a0_1 a0_2 a0_3 a0_4 t194 t195 t196 t197 t198 _ A11.out).mono ?_
    rintro e w22 ⟨rfl, hb⟩
    refine ⟨_, rfl, ?_⟩
    have n0_ := Aside0.mk (blk_below (g := gb191) (o := .cells #[.int .i64 a0_0, .int .i64 a0_1, .int .i64 a0_2, .int .i64 a0_3, .int .i64 a0_4] 23 (0, 0)) (blk_mv BK191) hb)
    have n1_ := Aside0.mk (blk_below (g := gb192) (o := .cells #[.int .i64 a1_0, .slice A1_1 l1_1.length c1_1] 26 (0, 0)) (blk_mv BK192) hb)
    have n2_ := Aside0.mk (below_step (by repeat (first | (with_reducible first | exact HB.out | apply below_alloc | apply pw_below_drewN | apply below_drew1 | refine below_set ?_ GE191.out | refine below_set ?_ GE192.out) | exact HB.out)) hb)
    clear BK191
    clear BK192
    clear HB
    have BK191 := n0_
    have BK192 := n1_
    have HB := n2_
    clear n0_ n1_ n2_
    (try clear hb)
    (try clear hb2)
    (try clear hk)
    (try clear hi)
    refine hK.out _ _ ⟨(blk_cell BK191.out 0).trans rfl, (blk_cell BK191.out 1).trans rfl, (blk_cell BK191.out 2).trans rfl, (blk_cell BK191.out 3).trans rfl, (blk_cell BK191.out 4).trans rfl, (blk_cell BK192.out 0).trans rfl, (blk_cell BK192.out 1).trans rfl⟩ (fun hHeld => ?_)
    clear hK K
    refine norm_ (a' := ?_) ?_ ?_
    rotate_left
    ·show Act.put _ (some 15) _ = _
     simp only [Act.put, List.setIfInBounds_toArray, List.set_cons_zero, List.set_cons_succ, i64_w, i32_w]
     rfl
    refine one_ (i := 3) (N := some 17) #[true, true, true, true, false, false] rfl rfl (by kernel_rfl) (by decide) (fun K hK => ?_)
    refine goes_ Try.func18 (by kernel_rfl) rfl #[.agg #[.int .i64 a1_0, .slice A1_1 l1_1.length c1_1]] (by rfl) rfl rfl (by (try simp only [List.map_toArray, List.map_cons, List.map_nil]); first | done | rfl | (simp only [List.length_drop, List.length_take]; rfl)) ?_
    with_reducible refine (laws_toTc.calls k a1_0 _ _ l1_1 t199 t200 _ ?side1 ?side2 A12.out).mono ?_
    (case side1 => repeat (first | exact (Kd.C_below HR1_1.out HB.out) | (with_reducible refine Kd.C_alloc ?_ _) | (with_reducible refine Kd.C_drewN ?_ _) | (with_reducible refine Kd.C_drew ?_)))
    (case side2 => exact HC1_1.out)
    rintro e w23 ⟨v201, rfl, ho0, hb⟩
    refine ⟨_, rfl, ?_⟩
    have n0_ := Aside0.mk (Kd.S_lower ho0 (below_size (by repeat (first | (with_reducible first | exact HB.out | apply below_alloc | apply pw_below_drewN | apply below_drew1 | refine below_set ?_ GE191.out | refine below_set ?_ GE192.out) | exact HB.out))))
    have n1_ := Aside0.mk (blk_below (g := gb191) (o := .cells #[.int .i64 a0_0, .int .i64 a0_1, .int .i64 a0_2, .int .i64 a0_3, .int .i64 a0_4] 23 (0, 0)) (blk_mv BK191) hb)
    have n2_ := Aside0.mk (blk_below (g := gb192) (o := .cells #[.int .i64 a1_0, .slice A1_1 l1_1.length c1_1] 26 (0, 0)) (blk_mv BK192) hb)
    have n3_ := Aside0.mk (below_step (by repeat (first | (with_reducible first | exact HB.out | apply below_alloc | apply pw_below_drewN | apply below_drew1 | refine below_set ?_ GE191.out | refine below_set ?_ GE192.out) | exact HB.out)) hb)
    clear BK191
    clear BK192
    clear HB
    have HO202 := n0_
    have BK191 := n1_
    have BK192 := n2_
    have HB := n3_
    clear n0_ n1_ n2_ n3_
    (try clear hb)
    (try clear hb2)
    (try clear hk)
    (try clear hi)
    (try clear ho0)
    obtain ⟨Ao24, co24, eo24⟩ := Kd.S_slice HO202.out
    (first | subst eo24 | (injection eo24 with f1_ f2_ f3_; have f4_ := f1_.symm; have f5_ := f3_.symm; clear f1_ f2_ f3_; subst f4_; subst f5_))
    refine hK.out _ _ ⟨(blk_cell BK191.out 0).trans rfl, (blk_cell BK191.out 1).trans rfl, (blk_cell BK191.out 2).trans rfl, (blk_cell BK191.out 3).trans rfl, (blk_cell BK191.out 4).trans rfl, (blk_cell BK192.out 0).trans rfl, (blk_cell BK192.out 1).trans rfl⟩ (fun hHeld => ?_)
    clear hK K
    refine norm_ (a' := ?_) ?_ ?_
    rotate_left
    ·show Act.put _ (some 17) _ = _
     simp only [Act.put, List.setIfInBounds_toArray, List.set_cons_zero, List.set_cons_succ, i64_w, i32_w]
     rfl
    refine one_ (i := 4) (N := some 18) #[true, true, true, true, true, false] rfl rfl (by kernel_rfl) (by decide) (fun K hK => ?_)
    refine goes_ Try.func16 (by kernel_rfl) rfl #[.agg #[.int .i64 t194, .int .i64 t195, .int .i64 t196, .int .i64 t197, .int .i64 t198], .agg #[.int .i64 t199, .slice Ao24 t200.length co24]] (by rfl) rfl rfl (by (try simp only [List.map_toArray, List.map_cons, List.map_nil]); first | done | rfl | (simp only [List.length_drop, List.length_take]; rfl)) ?_
    with_reducible refine (spec_TcOk.calls k t194 t195 t196 t197 t198 t199 _ _ t200 t203 _ ?side1 ?side2 A13.out).mono ?_
    (case side1 => repeat (first | exact (Kd.S_reads' HO202.out).2.2 | (with_reducible refine Kd.C_alloc ?_ _) | (with_reducible refine Kd.C_drewN ?_ _) | (with_reducible refine Kd.C_drew ?_)))
    (case side2 => exact (Kd.S_reads' HO202.out).2.1)
    rintro e w25 ⟨rfl, hb⟩
    refine ⟨_, rfl, ?_⟩
    have n0_ := Aside0.mk (Kd.S_below (Kd.S_mv HO202) hb)
    have n1_ := Aside0.mk (blk_below (g := gb191) (o := .cells #[.int .i64 a0_0, .int .i64 a0_1, .int .i64 a0_2, .int .i64 a0_3, .int .i64 a0_4] 23 (0, 0)) (blk_mv BK191) hb)
    have n2_ := Aside0.mk (blk_below (g := gb192) (o := .cells #[.int .i64 a1_0, .slice A1_1 l1_1.length c1_1] 26 (0, 0)) (blk_mv BK192) hb)
    have n3_ := Aside0.mk (below_step (by repeat (first | (with_reducible first | exact HB.out | apply below_alloc | apply pw_below_drewN | apply below_drew1 | refine below_set ?_ GE191.out | refine below_set ?_ GE192.out) | exact HB.out)) hb)
    clear HO202
    clear BK191
    clear BK192
    clear HB
    have HO202 := n0_
    have BK191 := n1_
    have BK192 := n2_
    have HB := n3_
    clear n0_ n1_ n2_ n3_
    (try clear hb)
    (try clear hb2)
    (try clear hk)
    (try clear hi)
    refine hK.out _ _ ⟨(blk_cell BK191.out 0).trans rfl, (blk_cell BK191.out 1).trans rfl, (blk_cell BK191.out 2).trans rfl, (blk_cell BK191.out 3).trans rfl, (blk_cell BK191.out 4).trans rfl, (blk_cell BK192.out 0).trans rfl, (blk_cell BK192.out 1).trans rfl⟩ (fun hHeld => ?_)
    clear hK K
    refine norm_ (a' := ?_) ?_ ?_
    rotate_left
    ·show Act.put _ (some 18) _ = _
     simp only [Act.put, List.setIfInBounds_toArray, List.set_cons_zero, List.set_cons_succ, i64_w, i32_w]
     rfl
    refine pure_ (i := 5) (N := some 6) (v := ?_) (a' := ?_) #[true, true, true, true, true, true] rfl rfl (by kernel_rfl) (fun _ _ _ h => h) (Or.inl ⟨by rfl, ?_⟩) ?_ ?_
    rotate_left
    ·intro w'
     go_simp
     with_reducible rfl
    rotate_left
    ·simp only [Act.put, List.setIfInBounds_toArray, List.set_cons_zero, List.set_cons_succ, i64_w, i32_w]
     rfl
    refine done_ (by kernel_rfl) ?_
    have hnb26 := NB192_191.out
    have hnc26 := NB191_192.out
    have hcz27_0 : w25.cell? ⟨gb192, 0, none⟩ = some (.int .i64 a1_0) := (blk_cell BK192.out 0).trans rfl
    have hcz27_1 : w25.cell? ⟨gb192, 1, none⟩ = some (.slice A1_1 l1_1.length c1_1) := (blk_cell BK192.out 1).trans rfl
    have hfz27_0 := blk_frozen BK192.out 0
    have hfz27_1 := blk_frozen BK192.out 1
    try go_wp2_with (first | ((with_reducible refine gate_callee (f := 18) rfl ?_); refine goesL_ (some 20) rfl rfl Try.func18 (by kernel_rfl) rfl #[.agg #[.int .i64 a1_0, .slice A1_1 l1_1.length c1_1]] rfl (by (try simp only [List.map_toArray, List.map_cons, List.map_nil]); first | done | rfl | (simp only [List.length_drop, List.length_take]; rfl)) ?_; (with_reducible refine (laws_toTc.calls k a1_0 _ _ l1_1 t204 t205 _ ?side1 ?side2 A14.out).mono ?_); (case side1 => repeat (first | exact (Kd.C_below HR1_1.out HB.out) | (with_reducible refine Kd.C_alloc ?_ _) | (with_reducible refine Kd.C_drewN ?_ _) | (with_reducible refine Kd.C_drew ?_))); (case side2 => exact HC1_1.out); rintro e w28 ⟨v206, rfl, ho0, hb⟩; refine ⟨_, rfl, ?_⟩; have n0_ := Aside0.mk (Kd.S_elder' (Kd.S_mv HO202) (Kd.S_base ho0) hb); have n1_ := Aside0.mk (Kd.S_lower (Kd.S_new' ho0 (Kd.S_lt (Kd.S_mv HO202))) (below_size (by repeat (first | (with_reducible first | exact HB.out | apply below_alloc | apply pw_below_drewN | apply below_drew1 | refine below_set ?_ GE191.out | refine below_set ?_ GE192.out) | exact HB.out)))); have n2_ := Aside0.mk (blk_below (g := gb191) (o := .cells #[.int .i64 a0_0, .int .i64 a0_1, .int .i64 a0_2, .int .i64 a0_3, .int .i64 a0_4] 23 (0, 0)) (blk_mv BK191) hb); have n3_ := Aside0.mk (blk_below (g := gb192) (o := .cells #[.int .i64 a1_0, .slice A1_1 l1_1.length c1_1] 26 (0, 0)) (blk_mv BK192) hb); have n4_ := Aside0.mk (below_step (by repeat (first | (with_reducible first | exact HB.out | apply below_alloc | apply pw_below_drewN | apply below_drew1 | refine below_set ?_ GE191.out | refine below_set ?_ GE192.out) | exact HB.out)) hb); clear HO202; clear BK191; clear BK192; clear HB; have HO202 := n0_; have HO207 := n1_; have BK191 := n2_; have BK192 := n3_; have HB := n4_; clear n0_ n1_ n2_ n3_ n4_; (try clear hb); (try clear hb2); (try clear hk); (try clear hi); (try clear ho0)) | ((with_reducible refine gate_dst (N := 7) rfl ?_); refine box_event ?hg (N := 7) ?hd (cs := #[.int .i64 0, .slice none 0 0]) (t := 33) ?hr ?_; (case hd => rfl); (case hg => rfl); (case hr => first | (go_simp; done) | (go_simp; rfl)); intro gb208 hg w29 hbox hb; have n0_ := Aside0.mk (Kd.S_below (Kd.S_mv HO202) hb); have n1_ := Aside0.mk (Kd.S_below (Kd.S_mv HO207) hb); have n2_ := Aside0.mk (blk_below (g := gb191) (o := .cells #[.int .i64 a0_0, .int .i64 a0_1, .int .i64 a0_2, .int .i64 a0_3, .int .i64 a0_4] 23 (0, 0)) (blk_mv BK191) hb); have n3_ := Aside0.mk (blk_below (g := gb192) (o := .cells #[.int .i64 a1_0, .slice A1_1 l1_1.length c1_1] 26 (0, 0)) (blk_mv BK192) hb); have n4_ := Aside0.mk (below_step (by repeat (first | (with_reducible first | exact HB.out | apply below_alloc | apply pw_below_drewN | apply below_drew1 | refine below_set ?_ GE191.out | refine below_set ?_ GE192.out) | exact HB.out)) hb); have n5_ := Aside0.mk (hbox); have n6_ := Aside0.mk ((by rw [hg]; exact (below_size (by repeat (first | (with_reducible first | exact HB.out | apply below_alloc | apply pw_below_drewN | apply below_drew1 | refine below_set ?_ GE191.out | refine below_set ?_ GE192.out) | exact HB.out))) : w.heap.size ≤ gb208)); have n7_ := Aside0.mk ((by rw [hg]; exact (below_size (by repeat (first | (with_reducible first | exact HB.out | apply below_alloc | apply pw_below_drewN | apply below_drew1 | refine below_set ?_ GE191.out | refine below_set ?_ GE192.out) | exact HB.out))) : w.heap.size ≤ gb208)); have n8_ := Aside0.mk ((by rw [hg]; exact Nat.ne_of_lt (blk_lt (g := gb191) (o := .cells #[.int .i64 a0_0, .int .i64 a0_1, .int .i64 a0_2, .int .i64 a0_3, .int .i64 a0_4] 23 (0, 0)) (blk_mv BK191)) : gb191 ≠ gb208)); have n9_ := Aside0.mk ((by rw [hg]; exact Nat.ne_of_gt (blk_lt (g := gb191) (o := .cells #[.int .i64 a0_0, .int .i64 a0_1, .int .i64 a0_2, .int .i64 a0_3, .int .i64 a0_4] 23 (0, 0)) (blk_mv BK191)) : gb208 ≠ gb191)); have n10_ := Aside0.mk ((by rw [hg]; exact Nat.ne_of_lt (blk_lt (g := gb192) (o := .cells #[.int .i64 a1_0, .slice A1_1 l1_1.length c1_1] 26 (0, 0)) (blk_mv BK192)) : gb192 ≠ gb208)); have n11_ := Aside0.mk ((by rw [hg]; exact Nat.ne_of_gt (blk_lt (g := gb192) (o := .cells #[.int .i64 a1_0, .slice A1_1 l1_1.length c1_1] 26 (0, 0)) (blk_mv BK192)) : gb208 ≠ gb192)); clear HO202; clear HO207; clear BK191; clear BK192; clear HB; have HO202 := n0_; have HO207 := n1_; have BK191 := n2_; have BK192 := n3_; have HB := n4_; have BK208 := n5_; have GW208 := n6_; have GE208 := n7_; have NB191_208 := n8_; have NB208_191 := n9_; have NB192_208 := n10_; have NB208_192 := n11_; clear n0_ n1_ n2_ n3_ n4_ n5_ n6_ n7_ n8_ n9_ n10_ n11_; clear hb hbox hg; have hnb30 := NB208_191.out; have hnc30 := NB191_208.out; have hnb31 := NB208_192.out; have hnc31 := NB192_208.out; have hcz32_0 : w29.cell? ⟨gb208, 0, none⟩ = some (.int .i64 0) := (blk_cell BK208.out 0).trans rfl; have hcz32_1 : w29.cell? ⟨gb208, 1, none⟩ = some (.slice none 0 0) := (blk_cell BK208.out 1).trans rfl; have hfz32_0 := blk_frozen BK208.out 0; have hfz32_1 := blk_frozen BK208.out 1; obtain ⟨Ao33, co33, eo33⟩ := Kd.S_slice HO207.out; subst eo33))
    have n0_ : Aside0 (Kd.S k113 113 ((w29.setCell ⟨gb208, 0, none⟩ (.int .i64 t204)).setCell ⟨gb208, 1, none⟩ (.slice Ao33 t205.length co33)) w.heap.size (fun k_ => some k_ ≠ (.slice Ao33 t205.length co33 : Value).ownBlock) (.slice Ao24 t200.length co24) t200) := ⟨by (with_reducible repeat (first | apply Kd.S_alloc | apply Kd.S_drewN | apply Kd.S_drew)); exact Kd.S_mono (Kd.S_far (p := ⟨gb208, 1, none⟩) (Kd.S_far (p := ⟨gb208, 0, none⟩) (Kd.S_types HO202.out BK208.out (by decide)) (fun _ hk => hk.2) (.int .i64 t204)) (fun _ hk => hk.2) (.slice Ao33 t205.length co33)) (fun _ hk => hk.1.2)⟩
    have n1_ : Aside0 (Kd.S k113 113 ((w29.setCell ⟨gb208, 0, none⟩ (.int .i64 t204)).setCell ⟨gb208, 1, none⟩ (.slice Ao33 t205.length co33)) w.heap.size (fun k_ => some k_ ≠ (.slice Ao24 t200.length co24 : Value).ownBlock) (.slice Ao33 t205.length co33) t205) := ⟨by (with_reducible repeat (first | apply Kd.S_alloc | apply Kd.S_drewN | apply Kd.S_drew)); exact Kd.S_mono (Kd.S_far (p := ⟨gb208, 1, none⟩) (Kd.S_far (p := ⟨gb208, 0, none⟩) (Kd.S_types HO207.out BK208.out (by decide)) (fun _ hk => hk.2) (.int .i64 t204)) (fun _ hk => hk.2) (.slice Ao33 t205.length co33)) (fun _ hk => hk.1.2)⟩
    have n2_ : Aside0 (((w29.setCell ⟨gb208, 0, none⟩ (.int .i64 t204)).setCell ⟨gb208, 1, none⟩ (.slice Ao33 t205.length co33)).heap[gb191]? = some (.cells #[.int .i64 a0_0, .int .i64 a0_1, .int .i64 a0_2, .int .i64 a0_3, .int .i64 a0_4] 23 (0, 0))) := ⟨by (with_reducible repeat (first | refine blk_drewN ?_ _ | refine blk_drew ?_ | refine blk_alloc ?_ _)); refine blk_far ?_ NB191_208.out _; (with_reducible repeat (first | refine blk_drewN ?_ _ | refine blk_drew ?_ | refine blk_alloc ?_ _)); refine blk_far ?_ NB191_208.out _; (with_reducible repeat (first | refine blk_drewN ?_ _ | refine blk_drew ?_ | refine blk_alloc ?_ _)); exact BK191.out⟩
    have n3_ : Aside0 (((w29.setCell ⟨gb208, 0, none⟩ (.int .i64 t204)).setCell ⟨gb208, 1, none⟩ (.slice Ao33 t205.length co33)).heap[gb192]? = some (.cells #[.int .i64 a1_0, .slice A1_1 l1_1.length c1_1] 26 (0, 0))) := ⟨by (with_reducible repeat (first | refine blk_drewN ?_ _ | refine blk_drew ?_ | refine blk_alloc ?_ _)); refine blk_far ?_ NB192_208.out _; (with_reducible repeat (first | refine blk_drewN ?_ _ | refine blk_drew ?_ | refine blk_alloc ?_ _)); refine blk_far ?_ NB192_208.out _; (with_reducible repeat (first | refine blk_drewN ?_ _ | refine blk_drew ?_ | refine blk_alloc ?_ _)); exact BK192.out⟩
    have n4_ : Aside0 (((w29.setCell ⟨gb208, 0, none⟩ (.int .i64 t204)).setCell ⟨gb208, 1, none⟩ (.slice Ao33 t205.length co33)).heap[gb208]? = some (.cells #[.int .i64 t204, .slice Ao33 t205.length co33] 33 (0, 0))) := ⟨by (with_reducible repeat (first | refine blk_drewN ?_ _ | refine blk_drew ?_ | refine blk_alloc ?_ _)); refine blk_put (cs := #[.int .i64 t204, .slice none 0 0]) ?_ 1 _ rfl; (with_reducible repeat (first | refine blk_drewN ?_ _ | refine blk_drew ?_ | refine blk_alloc ?_ _)); refine blk_put (cs := #[.int .i64 0, .slice none 0 0]) ?_ 0 _ rfl; (with_reducible repeat (first | refine blk_drewN ?_ _ | refine blk_drew ?_ | refine blk_alloc ?_ _)); exact BK208.out⟩
    have n5_ : Aside0 (Below w.heap.size w ((w29.setCell ⟨gb208, 0, none⟩ (.int .i64 t204)).setCell ⟨gb208, 1, none⟩ (.slice Ao33 t205.length co33))) := ⟨by repeat (first | (with_reducible first | exact HB.out | apply below_alloc | apply pw_below_drewN | apply below_drew1 | refine below_set ?_ GE191.out | refine below_set ?_ GE192.out | refine below_set ?_ GE208.out) | exact HB.out)⟩
    (try clear HO202)
    (try clear HO207)
    (try clear BK191)
    (try clear BK192)
    (try clear BK208)
    (try clear HB)
    generalize ((w29.setCell ⟨gb208, 0, none⟩ (.int .i64 t204)).setCell ⟨gb208, 1, none⟩ (.slice Ao33 t205.length co33)) = w34 at n0_ n1_ n2_ n3_ n4_ n5_ ⊢
    have HO202 := n0_
    have HO207 := n1_
    have BK191 := n2_
    have BK192 := n3_
    have BK208 := n4_
    have HB := n5_
    clear n0_ n1_ n2_ n3_ n4_ n5_
    have n0_ := Aside0.mk (Kd.S_drew HO202.out)
    have n1_ := Aside0.mk (Kd.S_drew HO207.out)
    have n2_ := Aside0.mk (blk_drew BK191.out)
    have n3_ := Aside0.mk (blk_drew BK192.out)
    have n4_ := Aside0.mk (blk_drew BK208.out)
    have n5_ := Aside0.mk (below_drew1 HB.out)
    clear HO202
    clear HO207
    clear BK191
    clear BK192
    clear BK208
    clear HB
    have HO202 := n0_
    have HO207 := n1_
    have BK191 := n2_
    have BK192 := n3_
    have BK208 := n4_
    have HB := n5_
    clear n0_ n1_ n2_ n3_ n4_ n5_
    refine start_ (n := 5) (S := fun w' => w'.cell? ⟨gb191, 0, none⟩ = some (.int .i64 a0_0) ∧ w'.cell? ⟨gb191, 1, none⟩ = some (.int .i64 a0_1) ∧ w'.cell? ⟨gb191, 2, none⟩ = some (.int .i64 a0_2) ∧ w'.cell? ⟨gb191, 3, none⟩ = some (.int .i64 a0_3) ∧ w'.cell? ⟨gb191, 4, none⟩ = some (.int .i64 a0_4) ∧ w'.cell? ⟨gb208, 0, none⟩ = some (.int .i64 t204) ∧ w'.cell? ⟨gb208, 1, none⟩ = some (.slice Ao33 t205.length co33)) (ds := []) #[false, false, false, false, false] (by kernel_rfl) rfl rfl ⟨(blk_cell BK191.out 0).trans rfl, (blk_cell BK191.out 1).trans rfl, (blk_cell BK191.out 2).trans rfl, (blk_cell BK191.out 3).trans rfl, (blk_cell BK191.out 4).trans rfl, (blk_cell BK208.out 0).trans rfl, (blk_cell BK208.out 1).trans rfl⟩ (fun hHeld => ?_)
    generalize w34.drew = w35 at HO202 HO207 BK191 BK192 BK208 HB hHeld ⊢
    refine take_ (i := 0) (N := some 21) (v := ?_) (a' := ?_) #[true, false, false, false, false] rfl rfl (by kernel_rfl) (fun _ _ _ h => h) (Or.inl ⟨by rfl, ?_⟩) hHeld ?_ ?_
    rotate_left
    ·rintro w' ⟨s0, s1, s2, s3, s4, s5, s6⟩
     go_simp
     with_reducible rfl
    rotate_left
    ·simp only [Act.put, List.setIfInBounds_toArray, List.set_cons_zero, List.set_cons_succ, i64_w, i32_w]
     rfl
    refine take_ (i := 2) (N := some 23) (v := ?_) (a' := ?_) #[true, false, true, false, false] rfl rfl (by kernel_rfl) (fun _ _ _ h => h) (Or.inl ⟨by rfl, ?_⟩) hHeld ?_ ?_
    rotate_left
    ·rintro w' ⟨s0, s1, s2, s3, s4, s5, s6⟩
     go_simp
     with_reducible rfl
    rotate_left
    ·simp only [Act.put, List.setIfInBounds_toArray, List.set_cons_zero, List.set_cons_succ, i64_w, i32_w]
     rfl
    refine one_ (i := 1) (N := some 22) #[true, true, true, false, false] rfl rfl (by kernel_rfl) (by decide) (fun K hK => ?_)
    refine goes_ Try.func17 (by kernel_rfl) rfl #[.agg #[.int .i64 a0_0, .int .i64 a0_1, .int .i64 a0_2, .int .i64 a0_3, .int .i64 a0_4]] (by rfl) rfl rfl (by (try simp only [List.map_toArray, List.map_cons, List.map_nil]); first | done | rfl | (simp only [List.length_drop, List.length_take]; rfl)) ?_
    with_reducible refine (laws_toLimits.calls a0_0 a0_1 a0_2 a0_3 a0_4 t209 t210 t211 t212 t213 _ A15.out).mono ?_
    rintro e w36 ⟨rfl, hb⟩
    refine ⟨_, rfl, ?_⟩
    have n0_ := Aside0.mk (Kd.S_below (Kd.S_mv HO202) hb)
    have n1_ := Aside0.mk (Kd.S_below (Kd.S_mv HO207) hb)
    have n2_ := Aside0.mk (blk_below (g := gb191) (o := .cells #[.int .i64 a0_0, .int .i64 a0_1, .int .i64 a0_2, .int .i64 a0_3, .int .i64 a0_4] 23 (0, 0)) (blk_mv BK191) hb)
    have n3_ := Aside0.mk (blk_below (g := gb192) (o := .cells #[.int .i64 a1_0, .slice A1_1 l1_1.length c1_1] 26 (0, 0)) (blk_mv BK192) hb)
    have n4_ := Aside0.mk (blk_below (g := gb208) (o := .cells #[.int .i64 t204, .slice Ao33 t205.length co33] 33 (0, 0)) (blk_mv BK208) hb)
    have n5_ := Aside0.mk (below_step (by repeat (first | (with_reducible first | exact HB.out | apply below_alloc | apply pw_below_drewN | apply below_drew1 | refine below_set ?_ GE191.out | refine below_set ?_ GE192.out | refine below_set ?_ GE208.out) | exact HB.out)) hb)
    clear HO202
    clear HO207
    clear BK191
    clear BK192
    clear BK208
    clear HB
    have HO202 := n0_
    have HO207 := n1_
    have BK191 := n2_
    have BK192 := n3_
    have BK208 := n4_
    have HB := n5_
    clear n0_ n1_ n2_ n3_ n4_ n5_
    (try clear hb)
    (try clear hb2)
    (try clear hk)
    (try clear hi)
    refine hK.out _ _ ⟨(blk_cell BK191.out 0).trans rfl, (blk_cell BK191.out 1).trans rfl, (blk_cell BK191.out 2).trans rfl, (blk_cell BK191.out 3).trans rfl, (blk_cell BK191.out 4).trans rfl, (blk_cell BK208.out 0).trans rfl, (blk_cell BK208.out 1).trans rfl⟩ (fun hHeld => ?_)
    clear hK K
    refine norm_ (a' := ?_) ?_ ?_
    rotate_left
    ·show Act.put _ (some 22) _ = _
     simp only [Act.put, List.setIfInBounds_toArray, List.set_cons_zero, List.set_cons_succ, i64_w, i32_w]
     rfl
    refine one_ (i := 3) (N := some 24) #[true, true, true, true, false] rfl rfl (by kernel_rfl) (by decide) (fun K hK => ?_)
    refine goes_ Try.func19 (by kernel_rfl) rfl #[.agg #[.int .i64 t209, .int .i64 t210, .int .i64 t211, .int .i64 t212, .int .i64 t213], .agg #[.int .i64 t204, .slice Ao33 t205.length co33]] (by rfl) rfl rfl (by (try simp only [List.map_toArray, List.map_cons, List.map_nil]); first | done | rfl | (simp only [List.length_drop, List.length_take]; rfl)) ?_
    with_reducible refine (impl_TcOk.calls k t209 t210 t211 t212 t213 t204 (fun k_ => (((some k_ ≠ (.slice Ao24 t200.length co24 : Value).ownBlock ∧ k_ ≠ gb191) ∧ k_ ≠ gb192) ∧ k_ ≠ gb208)) _ _ t205 t214 _ ?side1 A16.out).mono ?_
    (case side1 => exact Kd.S_V (Kd.S_types (Kd.S_types (Kd.S_types ((show Kd.S k113 113 _ w.heap.size (fun k_ => some k_ ≠ (.slice Ao24 t200.length co24 : Value).ownBlock) (.slice Ao33 t205.length co33) t205 from by (with_reducible repeat (first | apply Kd.S_alloc | apply Kd.S_drewN | apply Kd.S_drew)); exact HO207.out)) BK191.out (by decide)) BK192.out (by decide)) BK208.out (by decide)))
    rintro e w37 ⟨rfl, hb⟩
    refine ⟨_, rfl, ?_⟩
    have n0_ := Aside0.mk (Kd.S_below (Kd.S_mv HO202) hb)
    have n1_ := Aside0.mk (Kd.S_below (Kd.S_mv HO207) hb)
    have n2_ := Aside0.mk (blk_below (g := gb191) (o := .cells #[.int .i64 a0_0, .int .i64 a0_1, .int .i64 a0_2, .int .i64 a0_3, .int .i64 a0_4] 23 (0, 0)) (blk_mv BK191) hb)
    have n3_ := Aside0.mk (blk_below (g := gb192) (o := .cells #[.int .i64 a1_0, .slice A1_1 l1_1.length c1_1] 26 (0, 0)) (blk_mv BK192) hb)
    have n4_ := Aside0.mk (blk_below (g := gb208) (o := .cells #[.int .i64 t204, .slice Ao33 t205.length co33] 33 (0, 0)) (blk_mv BK208) hb)
    have n5_ := Aside0.mk (below_step (by repeat (first | (with_reducible first | exact HB.out | apply below_alloc | apply pw_below_drewN | apply below_drew1 | refine below_set ?_ GE191.out | refine below_set ?_ GE192.out | refine below_set ?_ GE208.out) | exact HB.out)) hb)
    clear HO202
    clear HO207
    clear BK191
    clear BK192
    clear BK208
    clear HB
    have HO202 := n0_
    have HO207 := n1_
    have BK191 := n2_
    have BK192 := n3_
    have BK208 := n4_
    have HB := n5_
    clear n0_ n1_ n2_ n3_ n4_ n5_
    (try clear hb)
    (try clear hb2)
    (try clear hk)
    (try clear hi)
    refine hK.out _ _ ⟨(blk_cell BK191.out 0).trans rfl, (blk_cell BK191.out 1).trans rfl, (blk_cell BK191.out 2).trans rfl, (blk_cell BK191.out 3).trans rfl, (blk_cell BK191.out 4).trans rfl, (blk_cell BK208.out 0).trans rfl, (blk_cell BK208.out 1).trans rfl⟩ (fun hHeld => ?_)
    clear hK K
    refine norm_ (a' := ?_) ?_ ?_
    rotate_left
    ·show Act.put _ (some 24) _ = _
     simp only [Act.put, List.setIfInBounds_toArray, List.set_cons_zero, List.set_cons_succ, i64_w, i32_w]
     rfl
    refine pure_ (i := 4) (N := some 8) (v := ?_) (a' := ?_) #[true, true, true, true, true] rfl rfl (by kernel_rfl) (fun _ _ _ h => h) (Or.inl ⟨by rfl, ?_⟩) ?_ ?_
    rotate_left
    ·intro w'
     go_simp
     with_reducible rfl
    rotate_left
    ·simp only [Act.put, List.setIfInBounds_toArray, List.set_cons_zero, List.set_cons_succ, i64_w, i32_w]
     rfl
    refine done_ (by kernel_rfl) ?_
    try go_wp2
    have n0_ := Aside0.mk (Kd.S_drew HO202.out)
    have n1_ := Aside0.mk (Kd.S_drew HO207.out)
    have n2_ := Aside0.mk (blk_drew BK191.out)
    have n3_ := Aside0.mk (blk_drew BK192.out)
    have n4_ := Aside0.mk (blk_drew BK208.out)
    have n5_ := Aside0.mk (below_drew1 HB.out)
    clear HO202
    clear HO207
    clear BK191
    clear BK192
    clear BK208
    clear HB
    have HO202 := n0_
    have HO207 := n1_
    have BK191 := n2_
    have BK192 := n3_
    have BK208 := n4_
    have HB := n5_
    clear n0_ n1_ n2_ n3_ n4_ n5_
    refine start_ (n := 5) (S := fun w' => w'.cell? ⟨gb208, 0, none⟩ = some (.int .i64 t204) ∧ w'.cell? ⟨gb208, 1, none⟩ = some (.slice Ao33 t205.length co33) ∧ w'.cell? ⟨gb192, 0, none⟩ = some (.int .i64 a1_0) ∧ w'.cell? ⟨gb192, 1, none⟩ = some (.slice A1_1 l1_1.length c1_1)) (ds := []) #[false, false, false, false, false] (by kernel_rfl) rfl rfl ⟨(blk_cell BK208.out 0).trans rfl, (blk_cell BK208.out 1).trans rfl, (blk_cell BK192.out 0).trans rfl, (blk_cell BK192.out 1).trans rfl⟩ (fun hHeld => ?_)
    generalize w37.drew = w38 at HO202 HO207 BK191 BK192 BK208 HB hHeld ⊢
    refine take_ (i := 0) (N := some 28) (v := ?_) (a' := ?_) #[true, false, false, false, false] rfl rfl (by kernel_rfl) (fun _ _ _ h => h) (Or.inl ⟨by rfl, ?_⟩) hHeld ?_ ?_
    rotate_left
    ·rintro w' ⟨s0, s1, s2, s3⟩
     go_simp
     with_reducible rfl
    rotate_left
    ·simp only [Act.put, List.setIfInBounds_toArray, List.set_cons_zero, List.set_cons_succ, i64_w, i32_w]
     rfl
    refine take_ (i := 1) (N := some 29) (v := ?_) (a' := ?_) #[true, true, false, false, false] rfl rfl (by kernel_rfl) (fun _ _ _ h => h) (Or.inl ⟨by rfl, ?_⟩) hHeld ?_ ?_
    rotate_left
    ·rintro w' ⟨s0, s1, s2, s3⟩
     go_simp
     with_reducible rfl
    rotate_left
    ·simp only [Act.put, List.setIfInBounds_toArray, List.set_cons_zero, List.set_cons_succ, i64_w, i32_w]
     rfl
    refine one_ (i := 2) (N := some 30) #[true, true, true, false, false] rfl rfl (by kernel_rfl) (by decide) (fun K hK => ?_)
    refine goes_ Try.func18 (by kernel_rfl) rfl #[.agg #[.int .i64 a1_0, .slice A1_1 l1_1.length c1_1]] (by rfl) rfl rfl (by (try simp only [List.map_toArray, List.map_cons, List.map_nil]); first | done | rfl | (simp only [List.length_drop, List.length_take]; rfl)) ?_
    with_reducible refine (laws_toTc.calls k a1_0 _ _ l1_1 t215 t216 _ ?side1 ?side2 A18.out).mono ?_
    (case side1 => repeat (first | exact (Kd.C_below HR1_1.out HB.out) | (with_reducible refine Kd.C_alloc ?_ _) | (with_reducible refine Kd.C_drewN ?_ _) | (with_reducible refine Kd.C_drew ?_)))
    (case side2 => exact HC1_1.out)
    rintro e w39 ⟨v217, rfl, ho0, hb⟩
    refine ⟨_, rfl, ?_⟩
    have n0_ := Aside0.mk (Kd.S_elder' (Kd.S_mv HO202) (Kd.S_base ho0) hb)
    have n1_ := Aside0.mk (Kd.S_elder' (Kd.S_mv HO207) (Kd.S_base ho0) hb)
    have n2_ := Aside0.mk (Kd.S_lower (Kd.S_new' (Kd.S_new' ho0 (Kd.S_lt (Kd.S_mv HO202))) (Kd.S_lt (Kd.S_mv HO207))) (below_size (by repeat (first | (with_reducible first | exact HB.out | apply below_alloc | apply pw_below_drewN | apply below_drew1 | refine below_set ?_ GE191.out | refine below_set ?_ GE192.out | refine below_set ?_ GE208.out) | exact HB.out))))
    have n3_ := Aside0.mk (blk_below (g := gb191) (o := .cells #[.int .i64 a0_0, .int .i64 a0_1, .int .i64 a0_2, .int .i64 a0_3, .int .i64 a0_4] 23 (0, 0)) (blk_mv BK191) hb)
    have n4_ := Aside0.mk (blk_below (g := gb192) (o := .cells #[.int .i64 a1_0, .slice A1_1 l1_1.length c1_1] 26 (0, 0)) (blk_mv BK192) hb)
    have n5_ := Aside0.mk (blk_below (g := gb208) (o := .cells #[.int .i64 t204, .slice Ao33 t205.length co33] 33 (0, 0)) (blk_mv BK208) hb)
    have n6_ := Aside0.mk (below_step (by repeat (first | (with_reducible first | exact HB.out | apply below_alloc | apply pw_below_drewN | apply below_drew1 | refine below_set ?_ GE191.out | refine below_set ?_ GE192.out | refine below_set ?_ GE208.out) | exact HB.out)) hb)
    clear HO202
    clear HO207
    clear BK191
    clear BK192
    clear BK208
    clear HB
    have HO202 := n0_
    have HO207 := n1_
    have HO218 := n2_
    have BK191 := n3_
    have BK192 := n4_
    have BK208 := n5_
    have HB := n6_
    clear n0_ n1_ n2_ n3_ n4_ n5_ n6_
    (try clear hb)
    (try clear hb2)
    (try clear hk)
    (try clear hi)
    (try clear ho0)
    obtain ⟨Ao40, co40, eo40⟩ := Kd.S_slice HO218.out
    (first | subst eo40 | (injection eo40 with f1_ f2_ f3_; have f4_ := f1_.symm; have f5_ := f3_.symm; clear f1_ f2_ f3_; subst f4_; subst f5_))
    refine hK.out _ _ ⟨(blk_cell BK208.out 0).trans rfl, (blk_cell BK208.out 1).trans rfl, (blk_cell BK192.out 0).trans rfl, (blk_cell BK192.out 1).trans rfl⟩ (fun hHeld => ?_)
    clear hK K
    refine norm_ (a' := ?_) ?_ ?_
    rotate_left
    ·show Act.put _ (some 30) _ = _
     simp only [Act.put, List.setIfInBounds_toArray, List.set_cons_zero, List.set_cons_succ, i64_w, i32_w]
     rfl
    refine one_ (i := 3) (N := some 31) #[true, true, true, true, false] rfl rfl (by kernel_rfl) (by decide) (fun K hK => ?_)
    refine goes_ Try.func20 (by kernel_rfl) rfl #[.agg #[.int .i64 t204, .slice Ao33 t205.length co33], .agg #[.int .i64 t215, .slice Ao40 t216.length co40]] (by rfl) rfl rfl (by (try simp only [List.map_toArray, List.map_cons, List.map_nil]); first | done | rfl | (simp only [List.length_drop, List.length_take]; rfl)) ?_
    with_reducible refine (laws_eqTc.calls k t204 _ _ t205 t215 _ _ t216 true _ ?side1 ?side2 ?side3 ?side4 A19.out).mono ?_
    (case side1 => repeat (first | exact (Kd.S_reads' HO207.out).2.2 | (with_reducible refine Kd.C_alloc ?_ _) | (with_reducible refine Kd.C_drewN ?_ _) | (with_reducible refine Kd.C_drew ?_)))
    (case side2 => exact (Kd.S_reads' HO207.out).2.1)
    (case side3 => repeat (first | exact (Kd.S_reads' HO218.out).2.2 | (with_reducible refine Kd.C_alloc ?_ _) | (with_reducible refine Kd.C_drewN ?_ _) | (with_reducible refine Kd.C_drew ?_)))
    (case side4 => exact (Kd.S_reads' HO218.out).2.1)
    rintro e w41 ⟨rfl, hb⟩
    refine ⟨_, rfl, ?_⟩
    have n0_ := Aside0.mk (Kd.S_below (Kd.S_mv HO202) hb)
    have n1_ := Aside0.mk (Kd.S_below (Kd.S_mv HO207) hb)
    have n2_ := Aside0.mk (Kd.S_below (Kd.S_mv HO218) hb)
    have n3_ := Aside0.mk (blk_below (g := gb191) (o := .cells #[.int .i64 a0_0, .int .i64 a0_1, .int .i64 a0_2, .int .i64 a0_3, .int .i64 a0_4] 23 (0, 0)) (blk_mv BK191) hb)
    have n4_ := Aside0.mk (blk_below (g := gb192) (o := .cells #[.int .i64 a1_0, .slice A1_1 l1_1.length c1_1] 26 (0, 0)) (blk_mv BK192) hb)
    have n5_ := Aside0.mk (blk_below (g := gb208) (o := .cells #[.int .i64 t204, .slice Ao33 t205.length co33] 33 (0, 0)) (blk_mv BK208) hb)
    have n6_ := Aside0.mk (below_step (by repeat (first | (with_reducible first | exact HB.out | apply below_alloc | apply pw_below_drewN | apply below_drew1 | refine below_set ?_ GE191.out | refine below_set ?_ GE192.out | refine below_set ?_ GE208.out) | exact HB.out)) hb)
    clear HO202
    clear HO207
    clear HO218
    clear BK191
    clear BK192
    clear BK208
    clear HB
    have HO202 := n0_
    have HO207 := n1_
    have HO218 := n2_
    have BK191 := n3_
    have BK192 := n4_
    have BK208 := n5_
    have HB := n6_
    clear n0_ n1_ n2_ n3_ n4_ n5_ n6_
    (try clear hb)
    (try clear hb2)
    (try clear hk)
    (try clear hi)
    refine hK.out _ _ ⟨(blk_cell BK208.out 0).trans rfl, (blk_cell BK208.out 1).trans rfl, (blk_cell BK192.out 0).trans rfl, (blk_cell BK192.out 1).trans rfl⟩ (fun hHeld => ?_)
    clear hK K
    refine norm_ (a' := ?_) ?_ ?_
    rotate_left
    ·show Act.put _ (some 31) _ = _
     simp only [Act.put, List.setIfInBounds_toArray, List.set_cons_zero, List.set_cons_succ, i64_w, i32_w]
     rfl
    refine pure_ (i := 4) (N := some 32) (v := ?_) (a' := ?_) #[true, true, true, true, true] rfl rfl (by kernel_rfl) (fun _ _ _ h => h) (Or.inl ⟨by rfl, ?_⟩) ?_ ?_
    rotate_left
    ·intro w'
     go_simp
     with_reducible rfl
    rotate_left
    ·simp only [Act.put, List.setIfInBounds_toArray, List.set_cons_zero, List.set_cons_succ, i64_w, i32_w]
     rfl
    refine done_ (by kernel_rfl) ?_
    try go_wp2
    go_ret
    exact ⟨by first | rfl | (simp [errW_none, errW_some] <;> rfl) | (simp [*, errW_none, errW_some] <;> rfl), by repeat (first | (with_reducible first | exact HB.out | apply below_alloc | apply pw_below_drewN | apply below_drew1 | refine below_set ?_ GE191.out | refine below_set ?_ GE192.out | refine below_set ?_ GE208.out) | exact HB.out)⟩
   ·replace c20 := Bool.eq_false_iff.mpr c20
    subst c20
    have H1 : (none) = some r := by rw [if_neg (show ¬ (false = true) by decide)] at H; exact H
    clear H
    have H := H1
    clear H1
    exact absurd H (by simp)

end Go.Proofs.Ytniapflmmigbjaa.PFnExactTcOk
