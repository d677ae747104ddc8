-- by a program of this session (wip/gen), out of the translation. Not trusted: Lean checks it.
import Derived.Test.YtniapflmmigbjaaPFnExactHeadOkx0
import Derived.Test.YtniapflmmigbjaaPFnExactHeadOkx1
import Derived.Test.YtniapflmmigbjaaPFnExactHeadOkx2
import Derived.Test.YtniapflmmigbjaaPFnExactHeadOkx5
import Derived.Test.YtniapflmmigbjaaPFnExactHeadOkx8
namespace Go.Proofs.Ytniapflmmigbjaa.PFnExactHeadOk
open Go.RowKit Go.Proofs.YtniapflmmigbjaaW.PrintWords Go.Proofs.YtniapflmmigbjaaW.PrintLast Go.Proofs.YtniapflmmigbjaaW.PrintMore
attribute [local go_sem] max2_int min2_int max_two min_two max_three min_three max_four min_four   -- for this text's walks alone
set_option linter.unusedVariables false
set_option linter.unusedSimpArgs false

/-! ### laws_FnExactHeadOk: function 10 -/
def laws_FnExactHeadOk.f (k : Nat) (a0_0 : Int) (a0_1 : Int) (a0_2 : Int) (a0_3 : Int) (a0_4 : Int) (a1_0 : Int) (a1_1 : Int) (a1_2 : Int) (l1_3 : List Int) (l1_4 : List Int) (a1_5 : Int) (a1_6 : Int) (l1_7 : List Int) (l1_8 : List Int) (l1_9 : List (List Int)) : Option (Bool) := (laws_szHead.f k a1_0 a1_1 a1_2 l1_3 l1_4 a1_5 a1_6 l1_7 l1_8 l1_9 1048576).bind fun t274 => (if t274 < 0 then (some true) else ((laws_toLimits.f a0_0 a0_1 a0_2 a0_3 a0_4).bind fun bt275 => ((laws_toHead.f k a1_0 a1_1 a1_2 l1_3 l1_4 a1_5 a1_6 l1_7 l1_8 l1_9).bind fun bt280 => ((spec_HeadOk.f k bt275.1 bt275.2.1 bt275.2.2.1 bt275.2.2.2.1 bt275.2.2.2.2 bt280.1 bt280.2.1 bt280.2.2.1 bt280.2.2.2.1 bt280.2.2.2.2.1 bt280.2.2.2.2.2.1 bt280.2.2.2.2.2.2.1 bt280.2.2.2.2.2.2.2.1 bt280.2.2.2.2.2.2.2.2.1 bt280.2.2.2.2.2.2.2.2.2).bind fun t300 => ((laws_toHead.f k a1_0 a1_1 a1_2 l1_3 l1_4 a1_5 a1_6 l1_7 l1_8 l1_9).bind fun bt301 => ((laws_toLimits.f a0_0 a0_1 a0_2 a0_3 a0_4).bind fun bt322 => ((impl_HeadOk.f k bt322.1 bt322.2.1 bt322.2.2.1 bt322.2.2.2.1 bt322.2.2.2.2 bt301.1 bt301.2.1 bt301.2.2.1 bt301.2.2.2.1 bt301.2.2.2.2.1 bt301.2.2.2.2.2.1 bt301.2.2.2.2.2.2.1 bt301.2.2.2.2.2.2.2.1 bt301.2.2.2.2.2.2.2.2.1 bt301.2.2.2.2.2.2.2.2.2).bind fun t327 => (if (t327 != t300) = true then (none) else ((laws_toHead.f k a1_0 a1_1 a1_2 l1_3 l1_4 a1_5 a1_6 l1_7 l1_8 l1_9).bind fun bt328 => ((laws_eqHead.f k bt301.1 bt301.2.1 bt301.2.2.1 bt301.2.2.2.1 bt301.2.2.2.2.1 bt301.2.2.2.2.2.1 bt301.2.2.2.2.2.2.1 bt301.2.2.2.2.2.2.2.1 bt301.2.2.2.2.2.2.2.2.1 bt301.2.2.2.2.2.2.2.2.2 bt328.1 bt328.2.1 bt328.2.2.1 bt328.2.2.2.1 bt328.2.2.2.2.1 bt328.2.2.2.2.2.1 bt328.2.2.2.2.2.2.1 bt328.2.2.2.2.2.2.2.1 bt328.2.2.2.2.2.2.2.2.1 bt328.2.2.2.2.2.2.2.2.2).bind fun t348 => (if t348 = true then (some true) else (none))))))))))))
theorem laws_FnExactHeadOk.mono : ∀ a0 a1 a2 a3 a4 a5 a6 a7 a8 a9 a10 a11 a12 a13 a14 k, LeO (laws_FnExactHeadOk.f k a0 a1 a2 a3 a4 a5 a6 a7 a8 a9 a10 a11 a12 a13 a14) (laws_FnExactHeadOk.f (k + 1) a0 a1 a2 a3 a4 a5 a6 a7 a8 a9 a10 a11 a12 a13 a14) := by
 intro a0 a1 a2 a3 a4 a5 a6 a7 a8 a9 a10 a11 a12 a13 a14 k
 unfold laws_FnExactHeadOk.f
 repeat' first
   | (with_reducible exact impl_HeadOk.mono _ _ _ _ _ _ _ _ _ _ _ _ _ _ _ _)
   | (with_reducible exact laws_eqHead.mono _ _ _ _ _ _ _ _ _ _ _ _ _ _ _ _ _ _ _ _ _)
   | (with_reducible exact laws_szHead.mono _ _ _ _ _ _ _ _ _ _ _ _)
   | (with_reducible exact laws_toHead.mono _ _ _ _ _ _ _ _ _ _ _)
   | (with_reducible exact spec_HeadOk.mono _ _ _ _ _ _ _ _ _ _ _ _ _ _ _ _)
   | (with_reducible exact LeO.refl _)
   | (with_reducible exact LeO.none _)
   | (with_reducible refine LeO.ite ?_ ?_)
   | (with_reducible refine LeO.bind ?_ (fun _ => ?_))
   | exact impl_HeadOk.mono _ _ _ _ _ _ _ _ _ _ _ _ _ _ _ _
   | exact laws_eqHead.mono _ _ _ _ _ _ _ _ _ _ _ _ _ _ _ _ _ _ _ _ _
   | exact laws_szHead.mono _ _ _ _ _ _ _ _ _ _ _ _
   | exact laws_toHead.mono _ _ _ _ _ _ _ _ _ _ _
   | exact spec_HeadOk.mono _ _ _ _ _ _ _ _ _ _ _ _ _ _ _ _
   | exact LeO.none _
   | refine LeO.ite ?_ ?_
   | refine LeO.bind ?_ (fun _ => ?_)
set_option maxHeartbeats 8000000 in
set_option maxRecDepth 100000 in
theorem laws_FnExactHeadOk.calls (k : Nat) (a0_0 : Int) (a0_1 : Int) (a0_2 : Int) (a0_3 : Int) (a0_4 : Int) (a1_0 : Int) (a1_1 : Int) (a1_2 : Int) (A1_3 : Option Addr) (c1_3 : Nat) (l1_3 : List Int) (A1_4 : Option Addr) (c1_4 : Nat) (l1_4 : List Int) (a1_5 : Int) (a1_6 : Int) (A1_7 : Option Addr) (c1_7 : Nat) (l1_7 : List Int) (A1_8 : Option Addr) (c1_8 : Nat) (l1_8 : List Int) (A1_9 : Option Addr) (c1_9 : Nat) (l1_9 : List (List Int)) (r : Bool) (w : World) (hr1_3 : Kd.C (Kd.int .u8) w A1_3 l1_3.length l1_3) (hc1_3 : l1_3.length ≤ c1_3) (hr1_4 : Kd.C (Kd.int .u8) w A1_4 l1_4.length l1_4) (hc1_4 : l1_4.length ≤ c1_4) (hr1_7 : Kd.C (Kd.int .u8) w A1_7 l1_7.length l1_7) (hc1_7 : l1_7.length ≤ c1_7) (hr1_8 : Kd.C (Kd.int .u8) w A1_8 l1_8.length l1_8) (hc1_8 : l1_8.length ≤ c1_8) (hr1_9 : Kd.C (Kd.slice 5 (Kd.int .u8)) w A1_9 l1_9.length l1_9) (hc1_9 : l1_9.length ≤ c1_9) (h : laws_FnExactHeadOk.f k a0_0 a0_1 a0_2 a0_3 a0_4 a1_0 a1_1 a1_2 l1_3 l1_4 a1_5 a1_6 l1_7 l1_8 l1_9 = some r) :
  Calls Try.prog 10 #[.agg #[.int .i64 a0_0, .int .i64 a0_1, .int .i64 a0_2, .int .i64 a0_3, .int .i64 a0_4], .agg #[.int .i64 a1_0, .int .i64 a1_1, .int .i64 a1_2, .slice A1_3 l1_3.length c1_3, .slice A1_4 l1_4.length c1_4, .int .i64 a1_5, .int .i64 a1_6, .slice A1_7 l1_7.length c1_7, .slice A1_8 l1_8.length c1_8, .slice A1_9 l1_9.length c1_9]] w fun e w' => e = .returned (.bool r) ∧ Below w.heap.size w w' := by
 have hu23 := Try.underlying23
 have hu50 := Try.underlying50
 have hu55 := Try.underlying55
 have HR1_3 := Aside0.mk hr1_3
 have HC1_3 := Aside0.mk hc1_3
 clear hr1_3 hc1_3
 have HR1_4 := Aside0.mk hr1_4
 have HC1_4 := Aside0.mk hc1_4
 clear hr1_4 hc1_4
 have HR1_7 := Aside0.mk hr1_7
 have HC1_7 := Aside0.mk hc1_7
 clear hr1_7 hc1_7
 have HR1_8 := Aside0.mk hr1_8
 have HC1_8 := Aside0.mk hc1_8
 clear hr1_8 hc1_8
 have HR1_9 := Aside0.mk hr1_9
 have HC1_9 := Aside0.mk hc1_9
 clear hr1_9 hc1_9
 have HB := Aside0.mk (Below.refl w.heap.size w)
 have H : ((laws_szHead.f k a1_0 a1_1 a1_2 l1_3 l1_4 a1_5 a1_6 l1_7 l1_8 l1_9 1048576).bind fun t274 => (if t274 < 0 then (some true) else ((laws_toLimits.f a0_0 a0_1 a0_2 a0_3 a0_4).bind fun bt275 => ((laws_toHead.f k a1_0 a1_1 a1_2 l1_3 l1_4 a1_5 a1_6 l1_7 l1_8 l1_9).bind fun bt280 => ((spec_HeadOk.f k bt275.1 bt275.2.1 bt275.2.2.1 bt275.2.2.2.1 bt275.2.2.2.2 bt280.1 bt280.2.1 bt280.2.2.1 bt280.2.2.2.1 bt280.2.2.2.2.1 bt280.2.2.2.2.2.1 bt280.2.2.2.2.2.2.1 bt280.2.2.2.2.2.2.2.1 bt280.2.2.2.2.2.2.2.2.1 bt280.2.2.2.2.2.2.2.2.2).bind fun t300 => ((laws_toHead.f k a1_0 a1_1 a1_2 l1_3 l1_4 a1_5 a1_6 l1_7 l1_8 l1_9).bind fun bt301 => ((laws_toLimits.f a0_0 a0_1 a0_2 a0_3 a0_4).bind fun bt322 => ((impl_HeadOk.f k bt322.1 bt322.2.1 bt322.2.2.1 bt322.2.2.2.1 bt322.2.2.2.2 bt301.1 bt301.2.1 bt301.2.2.1 bt301.2.2.2.1 bt301.2.2.2.2.1 bt301.2.2.2.2.2.1 bt301.2.2.2.2.2.2.1 bt301.2.2.2.2.2.2.2.1 bt301.2.2.2.2.2.2.2.2.1 bt301.2.2.2.2.2.2.2.2.2).bind fun t327 => (if (t327 != t300) = true then (none) else ((laws_toHead.f k a1_0 a1_1 a1_2 l1_3 l1_4 a1_5 a1_6 l1_7 l1_8 l1_9).bind fun bt328 => ((laws_eqHead.f k bt301.1 bt301.2.1 bt301.2.2.1 bt301.2.2.2.1 bt301.2.2.2.2.1 bt301.2.2.2.2.2.1 bt301.2.2.2.2.2.2.1 bt301.2.2.2.2.2.2.2.1 bt301.2.2.2.2.2.2.2.2.1 bt301.2.2.2.2.2.2.2.2.2 bt328.1 bt328.2.1 bt328.2.2.1 bt328.2.2.2.1 bt328.2.2.2.2.1 bt328.2.2.2.2.2.1 bt328.2.2.2.2.2.2.1 bt328.2.2.2.2.2.2.2.1 bt328.2.2.2.2.2.2.2.2.1 bt328.2.2.2.2.2.2.2.2.2).bind fun t348 => (if t348 = true then (some true) else (none))))))))))))) = some r := h
 clear h
 replace H := Option.bind_eq_some_iff.mp H
 obtain ⟨t274, A30, H⟩ := H
 try dsimp only at H
 have A3 := Aside0.mk A30
 clear A30
 have HC4 := Aside0.mk H
 clear H
 go_enter Try.func10, Try.ntmps10
 go_upto_if 13 with (first | ((with_reducible refine gate_dst (N := 2) rfl ?_); refine box_event ?hg (N := 2) ?hd (cs := #[.int .i64 a0_0, .int .i64 a0_1, .int .i64 a0_2, .int .i64 a0_3, .int .i64 a0_4]) (t := 23) ?hr ?_; (case hd => rfl); (case hg => rfl); (case hr => first | (go_simp; done) | (go_simp; rfl)); intro gb272 hg w5 hbox hb; have n0_ := Aside0.mk (below_step (by repeat (first | (with_reducible first | exact HB.out | apply below_alloc | apply pw_below_drewN | apply below_drew1) | exact HB.out)) hb); have n1_ := Aside0.mk (hbox); have n2_ := Aside0.mk ((by rw [hg]; exact (below_size (by repeat (first | (with_reducible first | exact HB.out | apply below_alloc | apply pw_below_drewN | apply below_drew1) | exact HB.out))) : w.heap.size ≤ gb272)); have n3_ := Aside0.mk ((by rw [hg]; exact (below_size (by repeat (first | (with_reducible first | exact HB.out | apply below_alloc | apply pw_below_drewN | apply below_drew1) | exact HB.out))) : w.heap.size ≤ gb272)); clear HB; have HB := n0_; have BK272 := n1_; have GW272 := n2_; have GE272 := n3_; clear n0_ n1_ n2_ n3_; clear hb hbox hg) | ((with_reducible refine gate_dst (N := 3) rfl ?_); refine box_event ?hg (N := 3) ?hd (cs := #[.int .i64 a1_0, .int .i64 a1_1, .int .i64 a1_2, .slice A1_3 l1_3.length c1_3, .slice A1_4 l1_4.length c1_4, .int .i64 a1_5, .int .i64 a1_6, .slice A1_7 l1_7.length c1_7, .slice A1_8 l1_8.length c1_8, .slice A1_9 l1_9.length c1_9]) (t := 50) ?hr ?_; (case hd => rfl); (case hg => rfl); (case hr => first | (go_simp; done) | (go_simp; rfl)); intro gb273 hg w6 hbox hb; have n0_ := Aside0.mk (blk_below (blk_mv BK272) hb); have n1_ := Aside0.mk (below_step (by repeat (first | (with_reducible first | exact HB.out | apply below_alloc | apply pw_below_drewN | apply below_drew1 | refine below_set ?_ GE272.out) | exact HB.out)) hb); have n2_ := Aside0.mk (hbox); have n3_ := Aside0.mk ((by rw [hg]; exact (below_size (by repeat (first | (with_reducible first | exact HB.out | apply below_alloc | apply pw_below_drewN | apply below_drew1 | refine below_set ?_ GE272.out) | exact HB.out))) : w.heap.size ≤ gb273)); have n4_ := Aside0.mk ((by rw [hg]; exact (below_size (by repeat (first | (with_reducible first | exact HB.out | apply below_alloc | apply pw_below_drewN | apply below_drew1 | refine below_set ?_ GE272.out) | exact HB.out))) : w.heap.size ≤ gb273)); have n5_ := Aside0.mk ((by rw [hg]; exact Nat.ne_of_lt (blk_lt (blk_mv BK272)) : gb272 ≠ gb273)); have n6_ := Aside0.mk ((by rw [hg]; exact Nat.ne_of_gt (blk_lt (blk_mv BK272)) : gb273 ≠ gb272)); clear BK272; clear HB; have BK272 := n0_; have HB := n1_; have BK273 := n2_; have GW273 := n3_; have GE273 := n4_; have NB272_273 := n5_; have NB273_272 := n6_; clear n0_ n1_ n2_ n3_ n4_ n5_ n6_; clear hb hbox hg; have hnb7 := NB273_272.out; have hnc7 := NB272_273.out; obtain ⟨hcz8_0, hcz8_1, hcz8_2, hcz8_3, hcz8_4, hcz8_5, hcz8_6, hcz8_7, hcz8_8, hcz8_9⟩ := blkA10 BK273.out; obtain ⟨hfz8_0, hfz8_1, hfz8_2, hfz8_3, hfz8_4, hfz8_5, hfz8_6, hfz8_7, hfz8_8, hfz8_9⟩ := blkF10 BK273.out) | ((with_reducible refine gate_callee (f := 26) rfl ?_); refine goesL_ (some 11) rfl rfl Try.func26 (by kernel_rfl) rfl #[.agg #[.int .i64 a1_0, .int .i64 a1_1, .int .i64 a1_2, .slice A1_3 l1_3.length c1_3, .slice A1_4 l1_4.length c1_4, .int .i64 a1_5, .int .i64 a1_6, .slice A1_7 l1_7.length c1_7, .slice A1_8 l1_8.length c1_8, .slice A1_9 l1_9.length c1_9], .int .i64 1048576] rfl (by (try simp only [List.map_toArray, List.map_cons, List.map_nil]); first | done | rfl | (simp only [List.length_drop, List.length_take]; rfl)) ?_; (with_reducible refine (laws_szHead.calls k a1_0 a1_1 a1_2 _ _ l1_3 _ _ l1_4 a1_5 a1_6 _ _ l1_7 _ _ l1_8 _ _ l1_9 1048576 t274 _ ?side1 ?side2 ?side3 ?side4 ?side5 ?side6 ?side7 ?side8 ?side9 ?side10 A3.out).mono ?_); (case side1 => exact Kd.C_mv HR1_3 HB); (case side2 => exact HC1_3.out); (case side3 => exact Kd.C_mv HR1_4 HB); (case side4 => exact HC1_4.out); (case side5 => exact Kd.C_mv HR1_7 HB); (case side6 => exact HC1_7.out); (case side7 => exact Kd.C_mv HR1_8 HB); (case side8 => exact HC1_8.out); (case side9 => exact Kd.C_mv HR1_9 HB); (case side10 => exact HC1_9.out); rintro e w9 ⟨rfl, hb⟩; refine ⟨_, rfl, ?_⟩; have n0_ := Aside0.mk (blk_below (blk_mv BK272) hb); have n1_ := Aside0.mk (blk_below (blk_mv BK273) hb); have n2_ := Aside0.mk (below_step (by repeat (first | (with_reducible first | exact HB.out | apply below_alloc | apply pw_below_drewN | apply below_drew1 | refine below_set ?_ GE272.out | refine below_set ?_ GE273.out) | exact HB.out)) hb); clear BK272; clear BK273; clear HB; have BK272 := n0_; have BK273 := n1_; have HB := n2_; clear n0_ n1_ n2_; (try clear hb); (try clear hb2); (try clear hk); (try clear hi)))
 (try simp only [Act.put, List.setIfInBounds_toArray, List.set_cons_zero, List.set_cons_succ])
 have H := HC4.out
 clear HC4
 by_cases c10 : t274 < 0
 ·rw [if_pos c10] at H
  have c10b0 : decide (t274 < 0) = true := decide_eq_true c10
  clear c10
  (first | rw [c10b0] | (simp only [i64_w, i32_w]; rw [c10b0]) | skip)
  obtain rfl := Option.some.inj H
  go_wp2
  go_ret
  exact ⟨by first | rfl | (simp [errW_none, errW_some] <;> rfl) | (simp [*, errW_none, errW_some] <;> rfl), by repeat (first | (with_reducible first | exact HB.out | apply below_alloc | apply pw_below_drewN | apply below_drew1 | refine below_set ?_ GE272.out | refine below_set ?_ GE273.out) | exact HB.out)⟩
 ·rw [if_neg c10] at H
  have c10b0 : decide (t274 < 0) = false := decide_eq_false c10
  clear c10
  (first | rw [c10b0] | (simp only [i64_w, i32_w]; rw [c10b0]) | skip)
  replace H := Option.bind_eq_some_iff.mp H
  obtain ⟨⟨t275, t276, t277, t278, t279⟩, A110, H⟩ := H
  try dsimp only at H
  have A11 := Aside0.mk A110
  clear A110
  replace H := Option.bind_eq_some_iff.mp H
  obtain ⟨⟨t280, t281, t282, t283, t286, t289, t290, t291, t294, t297⟩, A120, H⟩ := H
  try dsimp only at H
  have A12 := Aside0.mk A120
  clear A120
  replace H := Option.bind_eq_some_iff.mp H
  obtain ⟨t300, A130, H⟩ := H
  try dsimp only at H
  have A13 := Aside0.mk A130
  clear A130
  replace H := Option.bind_eq_some_iff.mp H
  obtain ⟨⟨t301, t302, t303, t304, t307, t310, t311, t312, t315, t318⟩, A140, H⟩ := H
  try dsimp only at H
  have A14 := Aside0.mk A140
  clear A140
  replace H := Option.bind_eq_some_iff.mp H
  obtain ⟨⟨t322, t323, t324, t325, t326⟩, A150, H⟩ := H
  try dsimp only at H
  have A15 := Aside0.mk A150
  clear A150
  replace H := Option.bind_eq_some_iff.mp H
  obtain ⟨t327, A160, H⟩ := H
  try dsimp only at H
  have A16 := Aside0.mk A160
  clear A160
  by_cases c17 : (t327 != t300) = true
  ·rw [if_pos c17] at H
   exact absurd H (by simp)
  ·rw [if_neg c17] at H
   have c17b0 : (t327 != t300) = false := by simpa using c17
   (try (have c17b1 : decide (t327 = t300) = true := by simpa using c17))
   (try (have c17b2 : (t327 == t300) = true := by simpa using c17))
   clear c17
   replace H := Option.bind_eq_some_iff.mp H
   obtain ⟨⟨t328, t329, t330, t331, t334, t337, t338, t339, t342, t345⟩, A180, H⟩ := H
   try dsimp only at H
   have A18 := Aside0.mk A180
   clear A180
   replace H := Option.bind_eq_some_iff.mp H
   obtain ⟨t348, A190, H⟩ := H
   replace H : (if t348 = true then (some true) else (none)) = some r := H
   have A19 := Aside0.mk A190
   clear A190
   by_cases c20 : t348 = true
   ·subst c20
    have H1 : (some true) = some r := by rw [if_pos rfl] at H; exact H
    clear H
    have H := H1
    clear H1
    obtain rfl := Option.some.inj H
    try go_wp2
    have n0_ := Aside0.mk (blk_drew BK272.out)
    have n1_ := Aside0.mk (blk_drew BK273.out)
    have n2_ := Aside0.mk (below_drew1 HB.out)
    clear BK272
    clear BK273
    clear HB
    have BK272 := n0_
    have BK273 := n1_
    have HB := n2_
    clear n0_ n1_ n2_
    refine start_ (n := 6) (S := fun w' => w'.cell? ⟨gb272, 0, none⟩ = some (.int .i64 a0_0) ∧ w'.cell? ⟨gb272, 1, none⟩ = some (.int .i64 a0_1) ∧ w'.cell? ⟨gb272, 2, none⟩ = some (.int .i64 a0_2) ∧ w'.cell? ⟨gb272, 3, none⟩ = some (.int .i64 a0_3) ∧ w'.cell? ⟨gb272, 4, none⟩ = some (.int .i64 a0_4) ∧ w'.cell? ⟨gb273, 0, none⟩ = some (.int .i64 a1_0) ∧ w'.cell? ⟨gb273, 1, none⟩ = some (.int .i64 a1_1) ∧ w'.cell? ⟨gb273, 2, none⟩ = some (.int .i64 a1_2) ∧ w'.cell? ⟨gb273, 3, none⟩ = some (.slice A1_3 l1_3.length c1_3) ∧ w'.cell? ⟨gb273, 4, none⟩ = some (.slice A1_4 l1_4.length c1_4) ∧ w'.cell? ⟨gb273, 5, none⟩ = some (.int .i64 a1_5) ∧ w'.cell? ⟨gb273, 6, none⟩ = some (.int .i64 a1_6) ∧ w'.cell? ⟨gb273, 7, none⟩ = some (.slice A1_7 l1_7.length c1_7) ∧ w'.cell? ⟨gb273, 8, none⟩ = some (.slice A1_8 l1_8.length c1_8) ∧ w'.cell? ⟨gb273, 9, none⟩ = some (.slice A1_9 l1_9.length c1_9)) (ds := []) #[false, false, false, false, false, false] (by kernel_rfl) rfl rfl ⟨(blk_cell BK272.out 0).trans rfl, (blk_cell BK272.out 1).trans rfl, (blk_cell BK272.out 2).trans rfl, (blk_cell BK272.out 3).trans rfl, (blk_cell BK272.out 4).trans rfl, (blk_cell BK273.out 0).trans rfl, (blk_cell BK273.out 1).trans rfl, (blk_cell BK273.out 2).trans rfl, (blk_cell BK273.out 3).trans rfl, (blk_cell BK273.out 4).trans rfl, (blk_cell BK273.out 5).trans rfl, (blk_cell BK273.out 6).trans rfl, (blk_cell BK273.out 7).trans rfl, (blk_cell BK273.out 8).trans rfl, (blk_cell BK273.out 9).trans rfl⟩ (fun hHeld => ?_)
    generalize w9.drew = w21 at BK272 BK273 HB hHeld ⊢
    refine take_ (i := 0) (N := some 14) (v := ?_) (a' := ?_) #[true, false, false, false, false, false] rfl rfl (by kernel_rfl) (fun _ _ _ h => h) (Or.inl ⟨by rfl, ?_⟩) hHeld ?_ ?_
    rotate_left
    ·rintro w' ⟨s0, s1, s2, s3, s4, s5, s6, s7, s8, s9, s10, s11, s12, s13, s14⟩
     go_simp
     with_reducible rfl
    rotate_left
    ·simp only [Act.put, List.setIfInBounds_toArray, List.set_cons_zero, List.set_cons_succ, i64_w, i32_w]
     rfl
    refine take_ (i := 2) (N := some 16) (v := ?_) (a' := ?_) #[true, false, true, false, false, false] rfl rfl (by kernel_rfl) (fun _ _ _ h => h) (Or.inl ⟨by rfl, ?_⟩) hHeld ?_ ?_
    rotate_left
    ·rintro w' ⟨s0, s1, s2, s3, s4, s5, s6, s7, s8, s9, s10, s11, s12, s13, s14⟩
     go_simp
     with_reducible rfl
    rotate_left
    ·simp only [Act.put, List.setIfInBounds_toArray, List.set_cons_zero, List.set_cons_succ, i64_w, i32_w]
     rfl
    refine one_ (i := 1) (N := some 15) #[true, true, true, false, false, false] rfl rfl (by kernel_rfl) (by decide) (fun K hK => ?_)
    refine goes_ Try.func17 (by kernel_rfl) rfl #[.agg #[.int .i64 a0_0, .int .i64 a0_1, .int .i64 a0_2, .int .i64 a0_3, .int .i64 a0_4]] (by rfl) rfl rfl (by (try simp only [List.map_toArray, List.map_cons, List.map_nil]); first | done | rfl | (simp only [List.length_drop, List.length_take]; rfl)) ?_
    with_reducible refine (laws_toLimits.calls a0_0 a0_1 a0_2 a0_3 a0_4 t275 t276 t277 t278 t279 _ A11.out).mono ?_
    rintro e w22 ⟨rfl, hb⟩
    refine ⟨_, rfl, ?_⟩
    have n0_ := Aside0.mk (blk_below (blk_mv BK272) hb)
    have n1_ := Aside0.mk (blk_below (blk_mv BK273) hb)
    have n2_ := Aside0.mk (below_step (by repeat (first | (with_reducible first | exact HB.out | apply below_alloc | apply pw_below_drewN | apply below_drew1 | refine below_set ?_ GE272.out | refine below_set ?_ GE273.out) | exact HB.out)) hb)
    clear BK272
    clear BK273
    clear HB
    have BK272 := n0_
    have BK273 := n1_
    have HB := n2_
    clear n0_ n1_ n2_
    (try clear hb)
    (try clear hb2)
    (try clear hk)
    (try clear hi)
    refine hK.out _ _ ⟨(blk_cell BK272.out 0).trans rfl, (blk_cell BK272.out 1).trans rfl, (blk_cell BK272.out 2).trans rfl, (blk_cell BK272.out 3).trans rfl, (blk_cell BK272.out 4).trans rfl, (blk_cell BK273.out 0).trans rfl, (blk_cell BK273.out 1).trans rfl, (blk_cell BK273.out 2).trans rfl, (blk_cell BK273.out 3).trans rfl, (blk_cell BK273.out 4).trans rfl, (blk_cell BK273.out 5).trans rfl, (blk_cell BK273.out 6).trans rfl, (blk_cell BK273.out 7).trans rfl, (blk_cell BK273.out 8).trans rfl, (blk_cell BK273.out 9).trans rfl⟩ (fun hHeld => ?_)
    clear hK K
    refine norm_ (a' := ?_) ?_ ?_
    rotate_left
    ·show Act.put _ (some 15) _ = _
     simp only [Act.put, List.setIfInBounds_toArray, List.set_cons_zero, List.set_cons_succ, i64_w, i32_w]
     rfl
    refine one_ (i := 3) (N := some 17) #[true, true, true, true, false, false] rfl rfl (by kernel_rfl) (by decide) (fun K hK => ?_)
    refine goes_ Try.func28 (by kernel_rfl) rfl #[.agg #[.int .i64 a1_0, .int .i64 a1_1, .int .i64 a1_2, .slice A1_3 l1_3.length c1_3, .slice A1_4 l1_4.length c1_4, .int .i64 a1_5, .int .i64 a1_6, .slice A1_7 l1_7.length c1_7, .slice A1_8 l1_8.length c1_8, .slice A1_9 l1_9.length c1_9]] (by rfl) rfl rfl (by (try simp only [List.map_toArray, List.map_cons, List.map_nil]); first | done | rfl | (simp only [List.length_drop, List.length_take]; rfl)) ?_
    with_reducible refine (laws_toHead.calls k a1_0 a1_1 a1_2 _ _ l1_3 _ _ l1_4 a1_5 a1_6 _ _ l1_7 _ _ l1_8 _ _ l1_9 t280 t281 t282 t283 t286 t289 t290 t291 t294 t297 _ ?side1 ?side2 ?side3 ?side4 ?side5 ?side6 ?side7 ?side8 ?side9 ?side10 A12.out).mono ?_
    (case side1 => exact Kd.C_mv HR1_3 HB)
    (case side2 => exact HC1_3.out)
    (case side3 => exact Kd.C_mv HR1_4 HB)
    (case side4 => exact HC1_4.out)
    (case side5 => exact Kd.C_mv HR1_7 HB)
    (case side6 => exact HC1_7.out)
    (case side7 => exact Kd.C_mv HR1_8 HB)
    (case side8 => exact HC1_8.out)
    (case side9 => exact Kd.C_mv HR1_9 HB)
    (case side10 => exact HC1_9.out)
    rintro e w23 ⟨v284, v287, v292, v295, v298, rfl, ho0, ho1, ho2, ho3, ho4, hb⟩
    refine ⟨_, rfl, ?_⟩
    have n0_ := Aside0.mk (Kd.R_lower ho0 (below_size (by repeat (first | (with_reducible first | exact HB.out | apply below_alloc | apply pw_below_drewN | apply below_drew1 | refine below_set ?_ GE272.out | refine below_set ?_ GE273.out) | exact HB.out))))
    have n1_ := Aside0.mk (Kd.R_lower ho1 (below_size (by repeat (first | (with_reducible first | exact HB.out | apply below_alloc | apply pw_below_drewN | apply below_drew1 | refine below_set ?_ GE272.out | refine below_set ?_ GE273.out) | exact HB.out))))
    have n2_ := Aside0.mk (Kd.R_lower ho2 (below_size (by repeat (first | (with_reducible first | exact HB.out | apply below_alloc | apply pw_below_drewN | apply below_drew1 | refine below_set ?_ GE272.out | refine below_set ?_ GE273.out) | exact HB.out))))
    have n3_ := Aside0.mk (Kd.R_lower ho3 (below_size (by repeat (first | (with_reducible first | exact HB.out | apply below_alloc | apply pw_below_drewN | apply below_drew1 | refine below_set ?_ GE272.out | refine below_set ?_ GE273.out) | exact HB.out))))
    have n4_ := Aside0.mk (Kd.S_lower ho4 (below_size (by repeat (first | (with_reducible first | exact HB.out | apply below_alloc | apply pw_below_drewN | apply below_drew1 | refine below_set ?_ GE272.out | refine below_set ?_ GE273.out) | exact HB.out))))
    have n5_ := Aside0.mk (blk_below (blk_mv BK272) hb)
    have n6_ := Aside0.mk (blk_below (blk_mv BK273) hb)
    have n7_ := Aside0.mk (below_step (by repeat (first | (with_reducible first | exact HB.out | apply below_alloc | apply pw_below_drewN | apply below_drew1 | refine below_set ?_ GE272.out | refine below_set ?_ GE273.out) | exact HB.out)) hb)
    clear BK272
    clear BK273
    clear HB
    have HO285 := n0_
    have HO288 := n1_
    have HO293 := n2_
    have HO296 := n3_
    have HO299 := n4_
    have BK272 := n5_
    have BK273 := n6_
    have HB := n7_
    clear n0_ n1_ n2_ n3_ n4_ n5_ n6_ n7_
    (try clear hb)
    (try clear hb2)
    (try clear hk)
    (try clear hi)
    (try clear ho0)
    (try clear ho1)
    (try clear ho2)
    (try clear ho3)
    (try clear ho4)
    obtain ⟨Ao24, co24, eo24⟩ := Kd.R_slice HO285.out
    (first | subst eo24 | (injection eo24 with f1_ f2_ f3_; have f4_ := f1_.symm; have f5_ := f3_.symm; clear f1_ f2_ f3_; subst f4_; subst f5_))
    obtain ⟨Ao25, co25, eo25⟩ := Kd.R_slice HO288.out
    (first | subst eo25 | (injection eo25 with f1_ f2_ f3_; have f4_ := f1_.symm; have f5_ := f3_.symm; clear f1_ f2_ f3_; subst f4_; subst f5_))
    obtain ⟨Ao26, co26, eo26⟩ := Kd.R_slice HO293.out
    (first | subst eo26 | (injection eo26 with f1_ f2_ f3_; have f4_ := f1_.symm; have f5_ := f3_.symm; clear f1_ f2_ f3_; subst f4_; subst f5_))
    obtain ⟨Ao27, co27, eo27⟩ := Kd.R_slice HO296.out
    (first | subst eo27 | (injection eo27 with f1_ f2_ f3_; have f4_ := f1_.symm; have f5_ := f3_.symm; clear f1_ f2_ f3_; subst f4_; subst f5_))
    obtain ⟨Ao28, co28, eo28⟩ := Kd.S_slice HO299.out
    (first | subst eo28 | (injection eo28 with f1_ f2_ f3_; have f4_ := f1_.symm; have f5_ := f3_.symm; clear f1_ f2_ f3_; subst f4_; subst f5_))
    refine hK.out _ _ ⟨(blk_cell BK272.out 0).trans rfl, (blk_cell BK272.out 1).trans rfl, (blk_cell BK272.out 2).trans rfl, (blk_cell BK272.out 3).trans rfl, (blk_cell BK272.out 4).trans rfl, (blk_cell BK273.out 0).trans rfl, (blk_cell BK273.out 1).trans rfl, (blk_cell BK273.out 2).trans rfl, (blk_cell BK273.out 3).trans rfl, (blk_cell BK273.out 4).trans rfl, (blk_cell BK273.out 5).trans rfl, (blk_cell BK273.out 6).trans rfl, (blk_cell BK273.out 7).trans rfl, (blk_cell BK273.out 8).trans rfl, (blk_cell BK273.out 9).trans rfl⟩ (fun hHeld => ?_)
    clear hK K
    refine norm_ (a' := ?_) ?_ ?_
    rotate_left
    ·show Act.put _ (some 17) _ = _
     simp only [Act.put, List.setIfInBounds_toArray, List.set_cons_zero, List.set_cons_succ, i64_w, i32_w]
     rfl
    refine one_ (i := 4) (N := some 18) #[true, true, true, true, true, false] rfl rfl (by kernel_rfl) (by decide) (fun K hK => ?_)
    refine goes_ Try.func52 (by kernel_rfl) rfl #[.agg #[.int .i64 t275, .int .i64 t276, .int .i64 t277, .int .i64 t278, .int .i64 t279], .agg #[.int .i64 t280, .int .i64 t281, .int .i64 t282, .slice Ao24 t283.length co24, .slice Ao25 t286.length co25, .int .i64 t289, .int .i64 t290, .slice Ao26 t291.length co26, .slice Ao27 t294.length co27, .slice Ao28 t297.length co28]] (by rfl) rfl rfl (by (try simp only [List.map_toArray, List.map_cons, List.map_nil]); first | done | rfl | (simp only [List.length_drop, List.length_take]; rfl)) ?_
    with_reducible refine (spec_HeadOk.calls k t275 t276 t277 t278 t279 t280 t281 t282 _ _ t283 _ _ t286 t289 t290 _ _ t291 _ _ t294 _ _ t297 t300 _ ?side1 ?side2 ?side3 ?side4 ?side5 ?side6 ?side7 ?side8 ?side9 ?side10 A13.out).mono ?_
    (case side1 => repeat (first | exact (Kd.R_reads' HO285.out).2.2 | (with_reducible refine Kd.C_alloc ?_ _) | (with_reducible refine Kd.C_drewN ?_ _) | (with_reducible refine Kd.C_drew ?_)))
    (case side2 => exact (Kd.R_reads' HO285.out).2.1)
    (case side3 => repeat (first | exact (Kd.R_reads' HO288.out).2.2 | (with_reducible refine Kd.C_alloc ?_ _) | (with_reducible refine Kd.C_drewN ?_ _) | (with_reducible refine Kd.C_drew ?_)))
    (case side4 => exact (Kd.R_reads' HO288.out).2.1)
    (case side5 => repeat (first | exact (Kd.R_reads' HO293.out).2.2 | (with_reducible refine Kd.C_alloc ?_ _) | (with_reducible refine Kd.C_drewN ?_ _) | (with_reducible refine Kd.C_drew ?_)))
    (case side6 => exact (Kd.R_reads' HO293.out).2.1)
    (case side7 => repeat (first | exact (Kd.R_reads' HO296.out).2.2 | (with_reducible refine Kd.C_alloc ?_ _) | (with_reducible refine Kd.C_drewN ?_ _) | (with_reducible refine Kd.C_drew ?_)))
    (case side8 => exact (Kd.R_reads' HO296.out).2.1)
    (case side9 => repeat (first | exact (Kd.S_reads' HO299.out).2.2 | (with_reducible refine Kd.C_alloc ?_ _) | (with_reducible refine Kd.C_drewN ?_ _) | (with_reducible refine Kd.C_drew ?_)))
    (case side10 => exact (Kd.S_reads' HO299.out).2.1)
    rintro e w29 ⟨rfl, hb⟩
    refine ⟨_, rfl, ?_⟩
    have n0_ := Aside0.mk (Kd.R_below (Kd.R_mv HO285) hb)
    have n1_ := Aside0.mk (Kd.R_below (Kd.R_mv HO288) hb)
    have n2_ := Aside0.mk (Kd.R_below (Kd.R_mv HO293) hb)
    have n3_ := Aside0.mk (Kd.R_below (Kd.R_mv HO296) hb)
    have n4_ := Aside0.mk (Kd.S_below (Kd.S_mv HO299) hb)
    have n5_ := Aside0.mk (blk_below (blk_mv BK272) hb)
    have n6_ := Aside0.mk (blk_below (blk_mv BK273) hb)
    have n7_ := Aside0.mk (below_step (by repeat (first | (with_reducible first | exact HB.out | apply below_alloc | apply pw_below_drewN | apply below_drew1 | refine below_set ?_ GE272.out | refine below_set ?_ GE273.out) | exact HB.out)) hb)
    clear HO285
    clear HO288
    clear HO293
    clear HO296
    clear HO299
    clear BK272
    clear BK273
    clear HB
    have HO285 := n0_
    have HO288 := n1_
    have HO293 := n2_
    have HO296 := n3_
    have HO299 := n4_
    have BK272 := n5_
    have BK273 := n6_
    have HB := n7_
    clear n0_ n1_ n2_ n3_ n4_ n5_ n6_ n7_
    (try clear hb)
    (try clear hb2)
    (try clear hk)
    (try clear hi)
    refine hK.out _ _ ⟨(blk_cell BK272.out 0).trans rfl, (blk_cell BK272.out 1).trans rfl, (blk_cell BK272.out 2).trans rfl, (blk_cell BK272.out 3).trans rfl, (blk_cell BK272.out 4).trans rfl, (blk_cell BK273.out 0).trans rfl, (blk_cell BK273.out 1).trans rfl, (blk_cell BK273.out 2).trans rfl, (blk_cell BK273.out 3).trans rfl, (blk_cell BK273.out 4).trans rfl, (blk_cell BK273.out 5).trans rfl, (blk_cell BK273.out 6).trans rfl, (blk_cell BK273.out 7).trans rfl, (blk_cell BK273.out 8).trans rfl, (blk_cell BK273.out 9).trans rfl⟩ (fun hHeld => ?_)
    clear hK K
    refine norm_ (a' := ?_) ?_ ?_
    rotate_left
    ·show Act.put _ (some 18) _ = _
     simp only [Act.put, List.setIfInBounds_toArray, List.set_cons_zero, List.set_cons_succ, i64_w, i32_w]
     rfl
    refine pure_ (i := 5) (N := some 6) (v := ?_) (a' := ?_) #[true, true, true, true, true, true] rfl rfl (by kernel_rfl) (fun _ _ _ h => h) (Or.inl ⟨by rfl, ?_⟩) ?_ ?_
    rotate_left
    ·intro w'
     go_simp
     with_reducible rfl
    rotate_left
    ·simp only [Act.put, List.setIfInBounds_toArray, List.set_cons_zero, List.set_cons_succ, i64_w, i32_w]
     rfl
    refine done_ (by kernel_rfl) ?_
    have hnb30 := NB273_272.out
    have hnc30 := NB272_273.out
    obtain ⟨hcz31_0, hcz31_1, hcz31_2, hcz31_3, hcz31_4, hcz31_5, hcz31_6, hcz31_7, hcz31_8, hcz31_9⟩ := blkA10 BK273.out
    obtain ⟨hfz31_0, hfz31_1, hfz31_2, hfz31_3, hfz31_4, hfz31_5, hfz31_6, hfz31_7, hfz31_8, hfz31_9⟩ := blkF10 BK273.out
    try go_wp2_with (first | ((with_reducible refine gate_callee (f := 28) rfl ?_); refine goesL_ (some 20) rfl rfl Try.func28 (by kernel_rfl) rfl #[.agg #[.int .i64 a1_0, .int .i64 a1_1, .int .i64 a1_2, .slice A1_3 l1_3.length c1_3, .slice A1_4 l1_4.length c1_4, .int .i64 a1_5, .int .i64 a1_6, .slice A1_7 l1_7.length c1_7, .slice A1_8 l1_8.length c1_8, .slice A1_9 l1_9.length c1_9]] rfl (by (try simp only [List.map_toArray, List.map_cons, List.map_nil]); first | done | rfl | (simp only [List.length_drop, List.length_take]; rfl)) ?_; (with_reducible refine (laws_toHead.calls k a1_0 a1_1 a1_2 _ _ l1_3 _ _ l1_4 a1_5 a1_6 _ _ l1_7 _ _ l1_8 _ _ l1_9 t301 t302 t303 t304 t307 t310 t311 t312 t315 t318 _ ?side1 ?side2 ?side3 ?side4 ?side5 ?side6 ?side7 ?side8 ?side9 ?side10 A14.out).mono ?_); (case side1 => exact Kd.C_mv HR1_3 HB); (case side2 => exact HC1_3.out); (case side3 => exact Kd.C_mv HR1_4 HB); (case side4 => exact HC1_4.out); (case side5 => exact Kd.C_mv HR1_7 HB); (case side6 => exact HC1_7.out); (case side7 => exact Kd.C_mv HR1_8 HB); (case side8 => exact HC1_8.out); (case side9 => exact Kd.C_mv HR1_9 HB); (case side10 => exact HC1_9.out); rintro e w32 ⟨v305, v308, v313, v316, v319, rfl, ho0, ho1, ho2, ho3, ho4, hb⟩; refine ⟨_, rfl, ?_⟩; have n0_ := Aside0.mk (Kd.R_below (Kd.R_mv HO285) hb); have n1_ := Aside0.mk (Kd.R_below (Kd.R_mv HO288) hb); have n2_ := Aside0.mk (Kd.R_below (Kd.R_mv HO293) hb); have n3_ := Aside0.mk (Kd.R_below (Kd.R_mv HO296) hb); have n4_ := Aside0.mk (Kd.S_below (Kd.S_mv HO299) hb); have n5_ := Aside0.mk (Kd.R_lower ho0 (below_size (by repeat (first | (with_reducible first | exact HB.out | apply below_alloc | apply pw_below_drewN | apply below_drew1 | refine below_set ?_ GE272.out | refine below_set ?_ GE273.out) | exact HB.out)))); have n6_ := Aside0.mk (Kd.R_lower ho1 (below_size (by repeat (first | (with_reducible first | exact HB.out | apply below_alloc | apply pw_below_drewN | apply below_drew1 | refine below_set ?_ GE272.out | refine below_set ?_ GE273.out) | exact HB.out)))); have n7_ := Aside0.mk (Kd.R_lower ho2 (below_size (by repeat (first | (with_reducible first | exact HB.out | apply below_alloc | apply pw_below_drewN | apply below_drew1 | refine below_set ?_ GE272.out | refine below_set ?_ GE273.out) | exact HB.out)))); have n8_ := Aside0.mk (Kd.R_lower ho3 (below_size (by repeat (first | (with_reducible first | exact HB.out | apply below_alloc | apply pw_below_drewN | apply below_drew1 | refine below_set ?_ GE272.out | refine below_set ?_ GE273.out) | exact HB.out)))); have n9_ := Aside0.mk (Kd.S_lower ho4 (below_size (by repeat (first | (with_reducible first | exact HB.out | apply below_alloc | apply pw_below_drewN | apply below_drew1 | refine below_set ?_ GE272.out | refine below_set ?_ GE273.out) | exact HB.out)))); have n10_ := Aside0.mk (blk_below (blk_mv BK272) hb); have n11_ := Aside0.mk (blk_below (blk_mv BK273) hb); have n12_ := Aside0.mk (below_step (by repeat (first | (with_reducible first | exact HB.out | apply below_alloc | apply pw_below_drewN | apply below_drew1 | refine below_set ?_ GE272.out | refine below_set ?_ GE273.out) | exact HB.out)) hb); clear HO285; clear HO288; clear HO293; clear HO296; clear HO299; clear BK272; clear BK273; clear HB; have HO285 := n0_; have HO288 := n1_; have HO293 := n2_; have HO296 := n3_; have HO299 := n4_; have HO306 := n5_; have HO309 := n6_; have HO314 := n7_; have HO317 := n8_; have HO320 := n9_; have BK272 := n10_; have BK273 := n11_; have HB := n12_; clear n0_ n1_ n2_ n3_ n4_ n5_ n6_ n7_ n8_ n9_ n10_ n11_ n12_; (try clear hb); (try clear hb2); (try clear hk); (try clear hi); (try clear ho0); (try clear ho1); (try clear ho2); (try clear ho3); (try clear ho4)) | ((with_reducible refine gate_dst (N := 7) rfl ?_); refine box_event ?hg (N := 7) ?hd (cs := #[.int .i64 0, .int .i64 0, .int .i64 0, .slice none 0 0, .slice none 0 0, .int .i64 0, .int .i64 0, .slice none 0 0, .slice none 0 0, .slice none 0 0]) (t := 55) ?hr ?_; (case hd => rfl); (case hg => rfl); (case hr => first | (go_simp; done) | (go_simp; rfl)); intro gb321 hg w33 hbox hb; have n0_ := Aside0.mk (Kd.R_below (Kd.R_mv HO285) hb); have n1_ := Aside0.mk (Kd.R_below (Kd.R_mv HO288) hb); have n2_ := Aside0.mk (Kd.R_below (Kd.R_mv HO293) hb); have n3_ := Aside0.mk (Kd.R_below (Kd.R_mv HO296) hb); have n4_ := Aside0.mk (Kd.S_below (Kd.S_mv HO299) hb); have n5_ := Aside0.mk (Kd.R_below (Kd.R_mv HO306) hb); have n6_ := Aside0.mk (Kd.R_below (Kd.R_mv HO309) hb); have n7_ := Aside0.mk (Kd.R_below (Kd.R_mv HO314) hb); have n8_ := Aside0.mk (Kd.R_below (Kd.R_mv HO317) hb); have n9_ := Aside0.mk (Kd.S_below (Kd.S_mv HO320) hb); have n10_ := Aside0.mk (blk_below (blk_mv BK272) hb); have n11_ := Aside0.mk (blk_below (blk_mv BK273) hb); have n12_ := Aside0.mk (below_step (by repeat (first | (with_reducible first | exact HB.out | apply below_alloc | apply pw_below_drewN | apply below_drew1 | refine below_set ?_ GE272.out | refine below_set ?_ GE273.out) | exact HB.out)) hb); have n13_ := Aside0.mk (hbox); have n14_ := Aside0.mk ((by rw [hg]; exact (below_size (by repeat (first | (with_reducible first | exact HB.out | apply below_alloc | apply pw_below_drewN | apply below_drew1 | refine below_set ?_ GE272.out | refine below_set ?_ GE273.out) | exact HB.out))) : w.heap.size ≤ gb321)); have n15_ := Aside0.mk ((by rw [hg]; exact (below_size (by repeat (first | (with_reducible first | exact HB.out | apply below_alloc | apply pw_below_drewN | apply below_drew1 | refine below_set ?_ GE272.out | refine below_set ?_ GE273.out) | exact HB.out))) : w.heap.size ≤ gb321)); have n16_ := Aside0.mk ((by rw [hg]; exact Nat.ne_of_lt (blk_lt (blk_mv BK272)) : gb272 ≠ gb321)); have n17_ := Aside0.mk ((by rw [hg]; exact Nat.ne_of_gt (blk_lt (blk_mv BK272)) : gb321 ≠ gb272)); have n18_ := Aside0.mk ((by rw [hg]; exact Nat.ne_of_lt (blk_lt (blk_mv BK273)) : gb273 ≠ gb321)); have n19_ := Aside0.mk ((by rw [hg]; exact Nat.ne_of_gt (blk_lt (blk_mv BK273)) : gb321 ≠ gb273)); clear HO285; clear HO288; clear HO293; clear HO296; clear HO299; clear HO306; clear HO309; clear HO314; clear HO317; clear HO320; clear BK272; clear BK273; clear HB; have HO285 := n0_; have HO288 := n1_; have HO293 := n2_; have HO296 := n3_; have HO299 := n4_; have HO306 := n5_; have HO309 := n6_; have HO314 := n7_; have HO317 := n8_; have HO320 := n9_; have BK272 := n10_; have BK273 := n11_; have HB := n12_; have BK321 := n13_; have GW321 := n14_; have GE321 := n15_; have NB272_321 := n16_; have NB321_272 := n17_; have NB273_321 := n18_; have NB321_273 := n19_; clear n0_ n1_ n2_ n3_ n4_ n5_ n6_ n7_ n8_ n9_ n10_ n11_ n12_ n13_ n14_ n15_ n16_ n17_ n18_ n19_; clear hb hbox hg; have hnb34 := NB321_272.out; have hnc34 := NB272_321.out; have hnb35 := NB321_273.out; have hnc35 := NB273_321.out; obtain ⟨hcz36_0, hcz36_1, hcz36_2, hcz36_3, hcz36_4, hcz36_5, hcz36_6, hcz36_7, hcz36_8, hcz36_9⟩ := blkA10 BK321.out; obtain ⟨hfz36_0, hfz36_1, hfz36_2, hfz36_3, hfz36_4, hfz36_5, hfz36_6, hfz36_7, hfz36_8, hfz36_9⟩ := blkF10 BK321.out; obtain ⟨Ao37, co37, eo37⟩ := Kd.R_slice HO306.out; subst eo37; obtain ⟨Ao38, co38, eo38⟩ := Kd.R_slice HO309.out; subst eo38; obtain ⟨Ao39, co39, eo39⟩ := Kd.R_slice HO314.out; subst eo39; obtain ⟨Ao40, co40, eo40⟩ := Kd.R_slice HO317.out; subst eo40; obtain ⟨Ao41, co41, eo41⟩ := Kd.S_slice HO320.out; subst eo41))
    have n0_ : Aside0 (Kd.R (Kd.int .u8) 5 ((((((((((w33.setCell ⟨gb321, 0, none⟩ (.int .i64 t301)).setCell ⟨gb321, 1, none⟩ (.int .i64 t302)).setCell ⟨gb321, 2, none⟩ (.int .i64 t303)).setCell ⟨gb321, 3, none⟩ (.slice Ao37 t304.length co37)).setCell ⟨gb321, 4, none⟩ (.slice Ao38 t307.length co38)).setCell ⟨gb321, 5, none⟩ (.int .i64 t310)).setCell ⟨gb321, 6, none⟩ (.int .i64 t311)).setCell ⟨gb321, 7, none⟩ (.slice Ao39 t312.length co39)).setCell ⟨gb321, 8, none⟩ (.slice Ao40 t315.length co40)).setCell ⟨gb321, 9, none⟩ (.slice Ao41 t318.length co41)) w.heap.size (fun _ => True) (.slice Ao24 t283.length co24) t283) := ⟨by (with_reducible repeat (first | apply Kd.R_alloc | apply Kd.R_drewN | apply Kd.R_drew)); exact Kd.R_mono (Kd.R_fars (Kd.R_types HO285.out BK321.out (by decide)) (fun _ hk => hk.2)) (fun _ hk => trivial)⟩
    have n1_ : Aside0 (Kd.R (Kd.int .u8) 5 ((((((((((w33.setCell ⟨gb321, 0, none⟩ (.int .i64 t301)).setCell ⟨gb321, 1, none⟩ (.int .i64 t302)).setCell ⟨gb321, 2, none⟩ (.int .i64 t303)).setCell ⟨gb321, 3, none⟩ (.slice Ao37 t304.length co37)).setCell ⟨gb321, 4, none⟩ (.slice Ao38 t307.length co38)).setCell ⟨gb321, 5, none⟩ (.int .i64 t310)).setCell ⟨gb321, 6, none⟩ (.int .i64 t311)).setCell ⟨gb321, 7, none⟩ (.slice Ao39 t312.length co39)).setCell ⟨gb321, 8, none⟩ (.slice Ao40 t315.length co40)).setCell ⟨gb321, 9, none⟩ (.slice Ao41 t318.length co41)) w.heap.size (fun _ => True) (.slice Ao25 t286.length co25) t286) := ⟨by (with_reducible repeat (first | apply Kd.R_alloc | apply Kd.R_drewN | apply Kd.R_drew)); exact Kd.R_mono (Kd.R_fars (Kd.R_types HO288.out BK321.out (by decide)) (fun _ hk => hk.2)) (fun _ hk => trivial)⟩
    have n2_ : Aside0 (Kd.R (Kd.int .u8) 5 ((((((((((w33.setCell ⟨gb321, 0, none⟩ (.int .i64 t301)).setCell ⟨gb321, 1, none⟩ (.int .i64 t302)).setCell ⟨gb321, 2, none⟩ (.int .i64 t303)).setCell ⟨gb321, 3, none⟩ (.slice Ao37 t304.length co37)).setCell ⟨gb321, 4, none⟩ (.slice Ao38 t307.length co38)).setCell ⟨gb321, 5, none⟩ (.int .i64 t310)).setCell ⟨gb321, 6, none⟩ (.int .i64 t311)).setCell ⟨gb321, 7, none⟩ (.slice Ao39 t312.length co39)).setCell ⟨gb321, 8, none⟩ (.slice Ao40 t315.length co40)).setCell ⟨gb321, 9, none⟩ (.slice Ao41 t318.length co41)) w.heap.size (fun _ => True) (.slice Ao26 t291.length co26) t291) := ⟨by (with_reducible repeat (first | apply Kd.R_alloc | apply Kd.R_drewN | apply Kd.R_drew)); exact Kd.R_mono (Kd.R_fars (Kd.R_types HO293.out BK321.out (by decide)) (fun _ hk => hk.2)) (fun _ hk => trivial)⟩
    have n3_ : Aside0 (Kd.R (Kd.int .u8) 5 ((((((((((w33.setCell ⟨gb321, 0, none⟩ (.int .i64 t301)).setCell ⟨gb321, 1, none⟩ (.int .i64 t302)).setCell ⟨gb321, 2, none⟩ (.int .i64 t303)).setCell ⟨gb321, 3, none⟩ (.slice Ao37 t304.length co37)).setCell ⟨gb321, 4, none⟩ (.slice Ao38 t307.length co38)).setCell ⟨gb321, 5, none⟩ (.int .i64 t310)).setCell ⟨gb321, 6, none⟩ (.int .i64 t311)).setCell ⟨gb321, 7, none⟩ (.slice Ao39 t312.length co39)).setCell ⟨gb321, 8, none⟩ (.slice Ao40 t315.length co40)).setCell ⟨gb321, 9, none⟩ (.slice Ao41 t318.length co41)) w.heap.size (fun _ => True) (.slice Ao27 t294.length co27) t294) := ⟨by (with_reducible repeat (first | apply Kd.R_alloc | apply Kd.R_drewN | apply Kd.R_drew)); exact Kd.R_mono (Kd.R_fars (Kd.R_types HO296.out BK321.out (by decide)) (fun _ hk => hk.2)) (fun _ hk => trivial)⟩
    have n4_ : Aside0 (Kd.S (Kd.slice 5 (Kd.int .u8)) 37 ((((((((((w33.setCell ⟨gb321, 0, none⟩ (.int .i64 t301)).setCell ⟨gb321, 1, none⟩ (.int .i64 t302)).setCell ⟨gb321, 2, none⟩ (.int .i64 t303)).setCell ⟨gb321, 3, none⟩ (.slice Ao37 t304.length co37)).setCell ⟨gb321, 4, none⟩ (.slice Ao38 t307.length co38)).setCell ⟨gb321, 5, none⟩ (.int .i64 t310)).setCell ⟨gb321, 6, none⟩ (.int .i64 t311)).setCell ⟨gb321, 7, none⟩ (.slice Ao39 t312.length co39)).setCell ⟨gb321, 8, none⟩ (.slice Ao40 t315.length co40)).setCell ⟨gb321, 9, none⟩ (.slice Ao41 t318.length co41)) w.heap.size (fun _ => True) (.slice Ao28 t297.length co28) t297) := ⟨by (with_reducible repeat (first | apply Kd.S_alloc | apply Kd.S_drewN | apply Kd.S_drew)); exact Kd.S_mono (Kd.S_fars (Kd.S_types HO299.out BK321.out (by decide)) (fun _ hk => hk.2)) (fun _ hk => trivial)⟩
    have n5_ : Aside0 (Kd.R (Kd.int .u8) 5 ((((((((((w33.setCell ⟨gb321, 0, none⟩ (.int .i64 t301)).setCell ⟨gb321, 1, none⟩ (.int .i64 t302)).setCell ⟨gb321, 2, none⟩ (.int .i64 t303)).setCell ⟨gb321, 3, none⟩ (.slice Ao37 t304.length co37)).setCell ⟨gb321, 4, none⟩ (.slice Ao38 t307.length co38)).setCell ⟨gb321, 5, none⟩ (.int .i64 t310)).setCell ⟨gb321, 6, none⟩ (.int .i64 t311)).setCell ⟨gb321, 7, none⟩ (.slice Ao39 t312.length co39)).setCell ⟨gb321, 8, none⟩ (.slice Ao40 t315.length co40)).setCell ⟨gb321, 9, none⟩ (.slice Ao41 t318.length co41)) w.heap.size (fun _ => True) (.slice Ao37 t304.length co37) t304) := ⟨by (with_reducible repeat (first | apply Kd.R_alloc | apply Kd.R_drewN | apply Kd.R_drew)); exact Kd.R_mono (Kd.R_fars (Kd.R_types HO306.out BK321.out (by decide)) (fun _ hk => hk.2)) (fun _ hk => trivial)⟩
    have n6_ : Aside0 (Kd.R (Kd.int .u8) 5 ((((((((((w33.setCell ⟨gb321, 0, none⟩ (.int .i64 t301)).setCell ⟨gb321, 1, none⟩ (.int .i64 t302)).setCell ⟨gb321, 2, none⟩ (.int .i64 t303)).setCell ⟨gb321, 3, none⟩ (.slice Ao37 t304.length co37)).setCell ⟨gb321, 4, none⟩ (.slice Ao38 t307.length co38)).setCell ⟨gb321, 5, none⟩ (.int .i64 t310)).setCell ⟨gb321, 6, none⟩ (.int .i64 t311)).setCell ⟨gb321, 7, none⟩ (.slice Ao39 t312.length co39)).setCell ⟨gb321, 8, none⟩ (.slice Ao40 t315.length co40)).setCell ⟨gb321, 9, none⟩ (.slice Ao41 t318.length co41)) w.heap.size (fun _ => True) (.slice Ao38 t307.length co38) t307) := ⟨by (with_reducible repeat (first | apply Kd.R_alloc | apply Kd.R_drewN | apply Kd.R_drew)); exact Kd.R_mono (Kd.R_fars (Kd.R_types HO309.out BK321.out (by decide)) (fun _ hk => hk.2)) (fun _ hk => trivial)⟩
    have n7_ : Aside0 (Kd.R (Kd.int .u8) 5 ((((((((((w33.setCell ⟨gb321, 0, none⟩ (.int .i64 t301)).setCell ⟨gb321, 1, none⟩ (.int .i64 t302)).setCell ⟨gb321, 2, none⟩ (.int .i64 t303)).setCell ⟨gb321, 3, none⟩ (.slice Ao37 t304.length co37)).setCell ⟨gb321, 4, none⟩ (.slice Ao38 t307.length co38)).setCell ⟨gb321, 5, none⟩ (.int .i64 t310)).setCell ⟨gb321, 6, none⟩ (.int .i64 t311)).setCell ⟨gb321, 7, none⟩ (.slice Ao39 t312.length co39)).setCell ⟨gb321, 8, none⟩ (.slice Ao40 t315.length co40)).setCell ⟨gb321, 9, none⟩ (.slice Ao41 t318.length co41)) w.heap.size (fun _ => True) (.slice Ao39 t312.length co39) t312) := ⟨by (with_reducible repeat (first | apply Kd.R_alloc | apply Kd.R_drewN | apply Kd.R_drew)); exact Kd.R_mono (Kd.R_fars (Kd.R_types HO314.out BK321.out (by decide)) (fun _ hk => hk.2)) (fun _ hk => trivial)⟩
    have n8_ : Aside0 (Kd.R (Kd.int .u8) 5 ((((((((((w33.setCell ⟨gb321, 0, none⟩ (.int .i64 t301)).setCell ⟨gb321, 1, none⟩ (.int .i64 t302)).setCell ⟨gb321, 2, none⟩ (.int .i64 t303)).setCell ⟨gb321, 3, none⟩ (.slice Ao37 t304.length co37)).setCell ⟨gb321, 4, none⟩ (.slice Ao38 t307.length co38)).setCell ⟨gb321, 5, none⟩ (.int .i64 t310)).setCell ⟨gb321, 6, none⟩ (.int .i64 t311)).setCell ⟨gb321, 7, none⟩ (.slice Ao39 t312.length co39)).setCell ⟨gb321, 8, none⟩ (.slice Ao40 t315.length co40)).setCell ⟨gb321, 9, none⟩ (.slice Ao41 t318.length co41)) w.heap.size (fun _ => True) (.slice Ao40 t315.length co40) t315) := ⟨by (with_reducible repeat (first | apply Kd.R_alloc | apply Kd.R_drewN | apply Kd.R_drew)); exact Kd.R_mono (Kd.R_fars (Kd.R_types HO317.out BK321.out (by decide)) (fun _ hk => hk.2)) (fun _ hk => trivial)⟩
    have n9_ : Aside0 (Kd.S (Kd.slice 5 (Kd.int .u8)) 37 ((((((((((w33.setCell ⟨gb321, 0, none⟩ (.int .i64 t301)).setCell ⟨gb321, 1, none⟩ (.int .i64 t302)).setCell ⟨gb321, 2, none⟩ (.int .i64 t303)).setCell ⟨gb321, 3, none⟩ (.slice Ao37 t304.length co37)).setCell ⟨gb321, 4, none⟩ (.slice Ao38 t307.length co38)).setCell ⟨gb321, 5, none⟩ (.int .i64 t310)).setCell ⟨gb321, 6, none⟩ (.int .i64 t311)).setCell ⟨gb321, 7, none⟩ (.slice Ao39 t312.length co39)).setCell ⟨gb321, 8, none⟩ (.slice Ao40 t315.length co40)).setCell ⟨gb321, 9, none⟩ (.slice Ao41 t318.length co41)) w.heap.size (fun _ => True) (.slice Ao41 t318.length co41) t318) := ⟨by (with_reducible repeat (first | apply Kd.S_alloc | apply Kd.S_drewN | apply Kd.S_drew)); exact Kd.S_mono (Kd.S_fars (Kd.S_types HO320.out BK321.out (by decide)) (fun _ hk => hk.2)) (fun _ hk => trivial)⟩
    have n10_ : Aside0 (((((((((((w33.setCell ⟨gb321, 0, none⟩ (.int .i64 t301)).setCell ⟨gb321, 1, none⟩ (.int .i64 t302)).setCell ⟨gb321, 2, none⟩ (.int .i64 t303)).setCell ⟨gb321, 3, none⟩ (.slice Ao37 t304.length co37)).setCell ⟨gb321, 4, none⟩ (.slice Ao38 t307.length co38)).setCell ⟨gb321, 5, none⟩ (.int .i64 t310)).setCell ⟨gb321, 6, none⟩ (.int .i64 t311)).setCell ⟨gb321, 7, none⟩ (.slice Ao39 t312.length co39)).setCell ⟨gb321, 8, none⟩ (.slice Ao40 t315.length co40)).setCell ⟨gb321, 9, none⟩ (.slice Ao41 t318.length co41)).heap[gb272]? = some (.cells #[.int .i64 a0_0, .int .i64 a0_1, .int .i64 a0_2, .int .i64 a0_3, .int .i64 a0_4] 23 (0, 0))) := ⟨by refine blk_peel ?_; refine blk_far ?_ NB272_321.out _; refine blk_peel ?_; refine blk_far ?_ NB272_321.out _; refine blk_peel ?_; refine blk_far ?_ NB272_321.out _; refine blk_peel ?_; refine blk_far ?_ NB272_321.out _; refine blk_peel ?_; refine blk_far ?_ NB272_321.out _; refine blk_peel ?_; refine blk_far ?_ NB272_321.out _; refine blk_peel ?_; refine blk_far ?_ NB272_321.out _; refine blk_peel ?_; refine blk_far ?_ NB272_321.out _; refine blk_peel ?_; refine blk_far ?_ NB272_321.out _; refine blk_peel ?_; refine blk_far ?_ NB272_321.out _; refine blk_peel ?_; exact BK272.out⟩
    have n11_ : Aside0 (((((((((((w33.setCell ⟨gb321, 0, none⟩ (.int .i64 t301)).setCell ⟨gb321, 1, none⟩ (.int .i64 t302)).setCell ⟨gb321, 2, none⟩ (.int .i64 t303)).setCell ⟨gb321, 3, none⟩ (.slice Ao37 t304.length co37)).setCell ⟨gb321, 4, none⟩ (.slice Ao38 t307.length co38)).setCell ⟨gb321, 5, none⟩ (.int .i64 t310)).setCell ⟨gb321, 6, none⟩ (.int .i64 t311)).setCell ⟨gb321, 7, none⟩ (.slice Ao39 t312.length co39)).setCell ⟨gb321, 8, none⟩ (.slice Ao40 t315.length co40)).setCell ⟨gb321, 9, none⟩ (.slice Ao41 t318.length co41)).heap[gb273]? = some (.cells #[.int .i64 a1_0, .int .i64 a1_1, .int .i64 a1_2, .slice A1_3 l1_3.length c1_3, .slice A1_4 l1_4.length c1_4, .int .i64 a1_5, .int .i64 a1_6, .slice A1_7 l1_7.length c1_7, .slice A1_8 l1_8.length c1_8, .slice A1_9 l1_9.length c1_9] 50 (0, 0))) := ⟨by refine blk_peel ?_; refine blk_far ?_ NB273_321.out _; refine blk_peel ?_; refine blk_far ?_ NB273_321.out _; refine blk_peel ?_; refine blk_far ?_ NB273_321.out _; refine blk_peel ?_; refine blk_far ?_ NB273_321.out _; refine blk_peel ?_; refine blk_far ?_ NB273_321.out _; refine blk_peel ?_; refine blk_far ?_ NB273_321.out _; refine blk_peel ?_; refine blk_far ?_ NB273_321.out _; refine blk_peel ?_; refine blk_far ?_ NB273_321.out _; refine blk_peel ?_; refine blk_far ?_ NB273_321.out _; refine blk_peel ?_; refine blk_far ?_ NB273_321.out _; refine blk_peel ?_; exact BK273.out⟩
    have n12_ : Aside0 (((((((((((w33.setCell ⟨gb321, 0, none⟩ (.int .i64 t301)).setCell ⟨gb321, 1, none⟩ (.int .i64 t302)).setCell ⟨gb321, 2, none⟩ (.int .i64 t303)).setCell ⟨gb321, 3, none⟩ (.slice Ao37 t304.length co37)).setCell ⟨gb321, 4, none⟩ (.slice Ao38 t307.length co38)).setCell ⟨gb321, 5, none⟩ (.int .i64 t310)).setCell ⟨gb321, 6, none⟩ (.int .i64 t311)).setCell ⟨gb321, 7, none⟩ (.slice Ao39 t312.length co39)).setCell ⟨gb321, 8, none⟩ (.slice Ao40 t315.length co40)).setCell ⟨gb321, 9, none⟩ (.slice Ao41 t318.length co41)).heap[gb321]? = some (.cells #[.int .i64 t301, .int .i64 t302, .int .i64 t303, .slice Ao37 t304.length co37, .slice Ao38 t307.length co38, .int .i64 t310, .int .i64 t311, .slice Ao39 t312.length co39, .slice Ao40 t315.length co40, .slice Ao41 t318.length co41] 55 (0, 0))) := ⟨by refine blk_peel ?_; refine blk_put (cs := #[.int .i64 t301, .int .i64 t302, .int .i64 t303, .slice Ao37 t304.length co37, .slice Ao38 t307.length co38, .int .i64 t310, .int .i64 t311, .slice Ao39 t312.length co39, .slice Ao40 t315.length co40, .slice none 0 0]) ?_ 9 _ rfl; refine blk_peel ?_; refine blk_put (cs := #[.int .i64 t301, .int .i64 t302, .int .i64 t303, .slice Ao37 t304.length co37, .slice Ao38 t307.length co38, .int .i64 t310, .int .i64 t311, .slice Ao39 t312.length co39, .slice none 0 0, .slice none 0 0]) ?_ 8 _ rfl; refine blk_peel ?_; refine blk_put (cs := #[.int .i64 t301, .int .i64 t302, .int .i64 t303, .slice Ao37 t304.length co37, .slice Ao38 t307.length co38, .int .i64 t310, .int .i64 t311, .slice none 0 0, .slice none 0 0, .slice none 0 0]) ?_ 7 _ rfl; refine blk_peel ?_; refine blk_put (cs := #[.int .i64 t301, .int .i64 t302, .int .i64 t303, .slice Ao37 t304.length co37, .slice Ao38 t307.length co38, .int .i64 t310, .int .i64 0, .slice none 0 0, .slice none 0 0, .slice none 0 0]) ?_ 6 _ rfl; refine blk_peel ?_; refine blk_put (cs := #[.int .i64 t301, .int .i64 t302, .int .i64 t303, .slice Ao37 t304.length co37, .slice Ao38 t307.length co38, .int .i64 0, .int .i64 0, .slice none 0 0, .slice none 0 0, .slice none 0 0]) ?_ 5 _ rfl; refine blk_peel ?_; refine blk_put (cs := #[.int .i64 t301, .int .i64 t302, .int .i64 t303, .slice Ao37 t304.length co37, .slice none 0 0, .int .i64 0, .int .i64 0, .slice none 0 0, .slice none 0 0, .slice none 0 0]) ?_ 4 _ rfl; refine blk_peel ?_; refine blk_put (cs := #[.int .i64 t301, .int .i64 t302, .int .i64 t303, .slice none 0 0, .slice none 0 0, .int .i64 0, .int .i64 0, .slice none 0 0, .slice none 0 0, .slice none 0 0]) ?_ 3 _ rfl; refine blk_peel ?_; refine blk_put (cs := #[.int .i64 t301, .int .i64 t302, .int .i64 0, .slice none 0 0, .slice none 0 0, .int .i64 0, .int .i64 0, .slice none 0 0, .slice none 0 0, .slice none 0 0]) ?_ 2 _ rfl; refine blk_peel ?_; refine blk_put (cs := #[.int .i64 t301, .int .i64 0, .int .i64 0, .slice none 0 0, .slice none 0 0, .int .i64 0, .int .i64 0, .slice none 0 0, .slice none 0 0, .slice none 0 0]) ?_ 1 _ rfl; refine blk_peel ?_; refine blk_put (cs := #[.int .i64 0, .int .i64 0, .int .i64 0, .slice none 0 0, .slice none 0 0, .int .i64 0, .int .i64 0, .slice none 0 0, .slice none 0 0, .slice none 0 0]) ?_ 0 _ rfl; refine blk_peel ?_; exact BK321.out⟩
    have n13_ : Aside0 (Below w.heap.size w ((((((((((w33.setCell ⟨gb321, 0, none⟩ (.int .i64 t301)).setCell ⟨gb321, 1, none⟩ (.int .i64 t302)).setCell ⟨gb321, 2, none⟩ (.int .i64 t303)).setCell ⟨gb321, 3, none⟩ (.slice Ao37 t304.length co37)).setCell ⟨gb321, 4, none⟩ (.slice Ao38 t307.length co38)).setCell ⟨gb321, 5, none⟩ (.int .i64 t310)).setCell ⟨gb321, 6, none⟩ (.int .i64 t311)).setCell ⟨gb321, 7, none⟩ (.slice Ao39 t312.length co39)).setCell ⟨gb321, 8, none⟩ (.slice Ao40 t315.length co40)).setCell ⟨gb321, 9, none⟩ (.slice Ao41 t318.length co41))) := ⟨by repeat (first | (with_reducible first | exact HB.out | apply below_alloc | apply pw_below_drewN | apply below_drew1 | refine below_set ?_ GE272.out | refine below_set ?_ GE273.out | refine below_set ?_ GE321.out) | exact HB.out)⟩
    (try clear HO285)
    (try clear HO288)
    (try clear HO293)
    (try clear HO296)
    (try clear HO299)
    (try clear HO306)
    (try clear HO309)
    (try clear HO314)
    (try clear HO317)
    (try clear HO320)
    (try clear BK272)
    (try clear BK273)
    (try clear BK321)
    (try clear HB)
    generalize ((((((((((w33.setCell ⟨gb321, 0, none⟩ (.int .i64 t301)).setCell ⟨gb321, 1, none⟩ (.int .i64 t302)).setCell ⟨gb321, 2, none⟩ (.int .i64 t303)).setCell ⟨gb321, 3, none⟩ (.slice Ao37 t304.length co37)).setCell ⟨gb321, 4, none⟩ (.slice Ao38 t307.length co38)).setCell ⟨gb321, 5, none⟩ (.int .i64 t310)).setCell ⟨gb321, 6, none⟩ (.int .i64 t311)).setCell ⟨gb321, 7, none⟩ (.slice Ao39 t312.length co39)).setCell ⟨gb321, 8, none⟩ (.slice Ao40 t315.length co40)).setCell ⟨gb321, 9, none⟩ (.slice Ao41 t318.length co41)) = w42 at n0_ n1_ n2_ n3_ n4_ n5_ n6_ n7_ n8_ n9_ n10_ n11_ n12_ n13_ ⊢
    have HO285 := n0_
    have HO288 := n1_
    have HO293 := n2_
    have HO296 := n3_
    have HO299 := n4_
    have HO306 := n5_
    have HO309 := n6_
    have HO314 := n7_
    have HO317 := n8_
    have HO320 := n9_
    have BK272 := n10_
    have BK273 := n11_
    have BK321 := n12_
    have HB := n13_
    clear n0_ n1_ n2_ n3_ n4_ n5_ n6_ n7_ n8_ n9_ n10_ n11_ n12_ n13_
    have n0_ := Aside0.mk (Kd.R_drew HO285.out)
    have n1_ := Aside0.mk (Kd.R_drew HO288.out)
    have n2_ := Aside0.mk (Kd.R_drew HO293.out)
    have n3_ := Aside0.mk (Kd.R_drew HO296.out)
    have n4_ := Aside0.mk (Kd.S_drew HO299.out)
    have n5_ := Aside0.mk (Kd.R_drew HO306.out)
    have n6_ := Aside0.mk (Kd.R_drew HO309.out)
    have n7_ := Aside0.mk (Kd.R_drew HO314.out)
    have n8_ := Aside0.mk (Kd.R_drew HO317.out)
    have n9_ := Aside0.mk (Kd.S_drew HO320.out)
    have n10_ := Aside0.mk (blk_drew BK272.out)
    have n11_ := Aside0.mk (blk_drew BK273.out)
    have n12_ := Aside0.mk (blk_drew BK321.out)
    have n13_ := Aside0.mk (below_drew1 HB.out)
    clear HO285
    clear HO288
    clear HO293
    clear HO296
    clear HO299
    clear HO306
    clear HO309
    clear HO314
    clear HO317
    clear HO320
    clear BK272
    clear BK273
    clear BK321
    clear HB
    have HO285 := n0_
    have HO288 := n1_
    have HO293 := n2_
    have HO296 := n3_
    have HO299 := n4_
    have HO306 := n5_
    have HO309 := n6_
    have HO314 := n7_
    have HO317 := n8_
    have HO320 := n9_
    have BK272 := n10_
    have BK273 := n11_
    have BK321 := n12_
    have HB := n13_
    clear n0_ n1_ n2_ n3_ n4_ n5_ n6_ n7_ n8_ n9_ n10_ n11_ n12_ n13_
    refine start_ (n := 5) (S := fun w' => w'.cell? ⟨gb272, 0, none⟩ = some (.int .i64 a0_0) ∧ w'.cell? ⟨gb272, 1, none⟩ = some (.int .i64 a0_1) ∧ w'.cell? ⟨gb272, 2, none⟩ = some (.int .i64 a0_2) ∧ w'.cell? ⟨gb272, 3, none⟩ = some (.int .i64 a0_3) ∧ w'.cell? ⟨gb272, 4, none⟩ = some (.int .i64 a0_4) ∧ w'.cell? ⟨gb321, 0, none⟩ = some (.int .i64 t301) ∧ w'.cell? ⟨gb321, 1, none⟩ = some (.int .i64 t302) ∧ w'.cell? ⟨gb321, 2, none⟩ = some (.int .i64 t303) ∧ w'.cell? ⟨gb321, 3, none⟩ = some (.slice Ao37 t304.length co37) ∧ w'.cell? ⟨gb321, 4, none⟩ = some (.slice Ao38 t307.length co38) ∧ w'.cell? ⟨gb321, 5, none⟩ = some (.int .i64 t310) ∧ w'.cell? ⟨gb321, 6, none⟩ = some (.int .i64 t311) ∧ w'.cell? ⟨gb321, 7, none⟩ = some (.slice Ao39 t312.length co39) ∧ w'.cell? ⟨gb321, 8, none⟩ = some (.slice Ao40 t315.length co40) ∧ w'.cell? ⟨gb321, 9, none⟩ = some (.slice Ao41 t318.length co41)) (ds := []) #[false, false, false, false, false] (by kernel_rfl) rfl rfl ⟨(blk_cell BK272.out 0).trans rfl, (blk_cell BK272.out 1).trans rfl, (blk_cell BK272.out 2).trans rfl, (blk_cell BK272.out 3).trans rfl, (blk_cell BK272.out 4).trans rfl, (blk_cell BK321.out 0).trans rfl, (blk_cell BK321.out 1).trans rfl, (blk_cell BK321.out 2).trans rfl, (blk_cell BK321.out 3).trans rfl, (blk_cell BK321.out 4).trans rfl, (blk_cell BK321.out 5).trans rfl, (blk_cell BK321.out 6).trans rfl, (blk_cell BK321.out 7).trans rfl, (blk_cell BK321.out 8).trans rfl, (blk_cell BK321.out 9).trans rfl⟩ (fun hHeld => ?_)
    generalize w42.drew = w43 at HO285 HO288 HO293 HO296 HO299 HO306 HO309 HO314 HO317 HO320 BK272 BK273 BK321 HB hHeld ⊢
    refine take_ (i := 0) (N := some 21) (v := ?_) (a' := ?_) #[true, false, false, false, false] rfl rfl (by kernel_rfl) (fun _ _ _ h => h) (Or.inl ⟨by rfl, ?_⟩) hHeld ?_ ?_
    rotate_left
    ·rintro w' ⟨s0, s1, s2, s3, s4, s5, s6, s7, s8, s9, s10, s11, s12, s13, s14⟩
     go_simp
     with_reducible rfl
    rotate_left
    ·simp only [Act.put, List.setIfInBounds_toArray, List.set_cons_zero, List.set_cons_succ, i64_w, i32_w]
     rfl
    refine take_ (i := 2) (N := some 23) (v := ?_) (a' := ?_) #[true, false, true, false, false] rfl rfl (by kernel_rfl) (fun _ _ _ h => h) (Or.inl ⟨by rfl, ?_⟩) hHeld ?_ ?_
    rotate_left
    ·rintro w' ⟨s0, s1, s2, s3, s4, s5, s6, s7, s8, s9, s10, s11, s12, s13, s14⟩
     go_simp
     with_reducible rfl
    rotate_left
    ·simp only [Act.put, List.setIfInBounds_toArray, List.set_cons_zero, List.set_cons_succ, i64_w, i32_w]
     rfl
    refine one_ (i := 1) (N := some 22) #[true, true, true, false, false] rfl rfl (by kernel_rfl) (by decide) (fun K hK => ?_)
    refine goes_ Try.func17 (by kernel_rfl) rfl #[.agg #[.int .i64 a0_0, .int .i64 a0_1, .int .i64 a0_2, .int .i64 a0_3, .int .i64 a0_4]] (by rfl) rfl rfl (by (try simp only [List.map_toArray, List.map_cons, List.map_nil]); first | done | rfl | (simp only [List.length_drop, List.length_take]; rfl)) ?_
    with_reducible refine (laws_toLimits.calls a0_0 a0_1 a0_2 a0_3 a0_4 t322 t323 t324 t325 t326 _ A15.out).mono ?_
    rintro e w44 ⟨rfl, hb⟩
    refine ⟨_, rfl, ?_⟩
    have n0_ := Aside0.mk (Kd.R_below (Kd.R_mv HO285) hb)
    have n1_ := Aside0.mk (Kd.R_below (Kd.R_mv HO288) hb)
    have n2_ := Aside0.mk (Kd.R_below (Kd.R_mv HO293) hb)
    have n3_ := Aside0.mk (Kd.R_below (Kd.R_mv HO296) hb)
    have n4_ := Aside0.mk (Kd.S_below (Kd.S_mv HO299) hb)
    have n5_ := Aside0.mk (Kd.R_below (Kd.R_mv HO306) hb)
    have n6_ := Aside0.mk (Kd.R_below (Kd.R_mv HO309) hb)
    have n7_ := Aside0.mk (Kd.R_below (Kd.R_mv HO314) hb)
    have n8_ := Aside0.mk (Kd.R_below (Kd.R_mv HO317) hb)
    have n9_ := Aside0.mk (Kd.S_below (Kd.S_mv HO320) hb)
    have n10_ := Aside0.mk (blk_below (blk_mv BK272) hb)
    have n11_ := Aside0.mk (blk_below (blk_mv BK273) hb)
    have n12_ := Aside0.mk (blk_below (blk_mv BK321) hb)
    have n13_ := Aside0.mk (below_step (by repeat (first | (with_reducible first | exact HB.out | apply below_alloc | apply pw_below_drewN | apply below_drew1 | refine below_set ?_ GE272.out | refine below_set ?_ GE273.out | refine below_set ?_ GE321.out) | exact HB.out)) hb)
    clear HO285
    clear HO288
    clear HO293
    clear HO296
    clear HO299
    clear HO306
    clear HO309
    clear HO314
    clear HO317
    clear HO320
    clear BK272
    clear BK273
    clear BK321
    clear HB
    have HO285 := n0_
    have HO288 := n1_
    have HO293 := n2_
    have HO296 := n3_
    have HO299 := n4_
    have HO306 := n5_
    have HO309 := n6_
    have HO314 := n7_
    have HO317 := n8_
    have HO320 := n9_
    have BK272 := n10_
    have BK273 := n11_
    have BK321 := n12_
    have HB := n13_
    clear n0_ n1_ n2_ n3_ n4_ n5_ n6_ n7_ n8_ n9_ n10_ n11_ n12_ n13_
    (try clear hb)
    (try clear hb2)
    (try clear hk)
    (try clear hi)
    refine hK.out _ _ ⟨(blk_cell BK272.out 0).trans rfl, (blk_cell BK272.out 1).trans rfl, (blk_cell BK272.out 2).trans rfl, (blk_cell BK272.out 3).trans rfl, (blk_cell BK272.out 4).trans rfl, (blk_cell BK321.out 0).trans rfl, (blk_cell BK321.out 1).trans rfl, (blk_cell BK321.out 2).trans rfl, (blk_cell BK321.out 3).trans rfl, (blk_cell BK321.out 4).trans rfl, (blk_cell BK321.out 5).trans rfl, (blk_cell BK321.out 6).trans rfl, (blk_cell BK321.out 7).trans rfl, (blk_cell BK321.out 8).trans rfl, (blk_cell BK321.out 9).trans rfl⟩ (fun hHeld => ?_)
    clear hK K
    refine norm_ (a' := ?_) ?_ ?_
    rotate_left
    ·show Act.put _ (some 22) _ = _
     simp only [Act.put, List.setIfInBounds_toArray, List.set_cons_zero, List.set_cons_succ, i64_w, i32_w]
     rfl
    refine one_ (i := 3) (N := some 24) #[true, true, true, true, false] rfl rfl (by kernel_rfl) (by decide) (fun K hK => ?_)
    refine goes_ Try.func53 (by kernel_rfl) rfl #[.agg #[.int .i64 t322, .int .i64 t323, .int .i64 t324, .int .i64 t325, .int .i64 t326], .agg #[.int .i64 t301, .int .i64 t302, .int .i64 t303, .slice Ao37 t304.length co37, .slice Ao38 t307.length co38, .int .i64 t310, .int .i64 t311, .slice Ao39 t312.length co39, .slice Ao40 t315.length co40, .slice Ao41 t318.length co41]] (by rfl) rfl rfl (by (try simp only [List.map_toArray, List.map_cons, List.map_nil]); first | done | rfl | (simp only [List.length_drop, List.length_take]; rfl)) ?_
    with_reducible refine (impl_HeadOk.calls k t322 t323 t324 t325 t326 t301 t302 t303 (fun k_ => some k_ = (.slice Ao37 t304.length co37 : Value).ownBlock) _ _ t304 (fun k_ => some k_ = (.slice Ao38 t307.length co38 : Value).ownBlock) _ _ t307 t310 t311 _ _ t312 _ _ t315 _ _ t318 t327 _ ?side1 ?side2 ?side3 ?side4 ?side5 ?side6 ?side7 ?side8 A16.out).mono ?_
    (case side1 => exact Kd.R_V (Kd.R_tight rfl (Kd.R_types (Kd.R_types (Kd.R_types (Kd.R_apart' (Kd.R_apart' ((show Kd.R (Kd.int .u8) 5 _ w.heap.size (fun k_ => True) (.slice Ao37 t304.length co37) t304 from by (with_reducible repeat (first | apply Kd.R_alloc | apply Kd.R_drewN | apply Kd.R_drew)); exact HO306.out)) (Kd.S_typed HO299.out) (by decide)) (Kd.S_typed HO320.out) (by decide)) BK272.out (by decide)) BK273.out (by decide)) BK321.out (by decide))))
    (case side2 => exact Kd.R_V (Kd.R_tight rfl (Kd.R_types (Kd.R_types (Kd.R_types (Kd.R_apart' (Kd.R_apart' ((show Kd.R (Kd.int .u8) 5 _ w.heap.size (fun k_ => True) (.slice Ao38 t307.length co38) t307 from by (with_reducible repeat (first | apply Kd.R_alloc | apply Kd.R_drewN | apply Kd.R_drew)); exact HO309.out)) (Kd.S_typed HO299.out) (by decide)) (Kd.S_typed HO320.out) (by decide)) BK272.out (by decide)) BK273.out (by decide)) BK321.out (by decide))))
    (case side3 => repeat (first | exact (Kd.R_reads' HO314.out).2.2 | (with_reducible refine Kd.C_alloc ?_ _) | (with_reducible refine Kd.C_drewN ?_ _) | (with_reducible refine Kd.C_drew ?_)))
    (case side4 => exact (Kd.R_reads' HO314.out).2.1)
    (case side5 => repeat (first | exact (Kd.R_reads' HO317.out).2.2 | (with_reducible refine Kd.C_alloc ?_ _) | (with_reducible refine Kd.C_drewN ?_ _) | (with_reducible refine Kd.C_drew ?_)))
    (case side6 => exact (Kd.R_reads' HO317.out).2.1)
    (case side7 => repeat (first | exact (Kd.S_reads' HO320.out).2.2 | (with_reducible refine Kd.C_alloc ?_ _) | (with_reducible refine Kd.C_drewN ?_ _) | (with_reducible refine Kd.C_drew ?_)))
    (case side8 => exact (Kd.S_reads' HO320.out).2.1)
    rintro e w45 ⟨rfl, hb⟩
    refine ⟨_, rfl, ?_⟩
    have n0_ := Aside0.mk (Kd.R_below (Kd.R_mv HO285) hb)
    have n1_ := Aside0.mk (Kd.R_below (Kd.R_mv HO288) hb)
    have n2_ := Aside0.mk (Kd.R_below (Kd.R_mv HO293) hb)
    have n3_ := Aside0.mk (Kd.R_below (Kd.R_mv HO296) hb)
    have n4_ := Aside0.mk (Kd.S_below (Kd.S_mv HO299) hb)
    have n5_ := Aside0.mk (Kd.R_below (Kd.R_mv HO306) hb)
    have n6_ := Aside0.mk (Kd.R_below (Kd.R_mv HO309) hb)
    have n7_ := Aside0.mk (Kd.R_below (Kd.R_mv HO314) hb)
    have n8_ := Aside0.mk (Kd.R_below (Kd.R_mv HO317) hb)
    have n9_ := Aside0.mk (Kd.S_below (Kd.S_mv HO320) hb)
    have n10_ := Aside0.mk (blk_below (blk_mv BK272) hb)
    have n11_ := Aside0.mk (blk_below (blk_mv BK273) hb)
    have n12_ := Aside0.mk (blk_below (blk_mv BK321) hb)
    have n13_ := Aside0.mk (below_step (by repeat (first | (with_reducible first | exact HB.out | apply below_alloc | apply pw_below_drewN | apply below_drew1 | refine below_set ?_ GE272.out | refine below_set ?_ GE273.out | refine below_set ?_ GE321.out) | exact HB.out)) hb)
    clear HO285
    clear HO288
    clear HO293
    clear HO296
    clear HO299
    clear HO306
    clear HO309
    clear HO314
    clear HO317
    clear HO320
    clear BK272
    clear BK273
    clear BK321
    clear HB
    have HO285 := n0_
    have HO288 := n1_
    have HO293 := n2_
    have HO296 := n3_
    have HO299 := n4_
    have HO306 := n5_
    have HO309 := n6_
    have HO314 := n7_
    have HO317 := n8_
    have HO320 := n9_
    have BK272 := n10_
    have BK273 := n11_
    have BK321 := n12_
    have HB := n13_
    clear n0_ n1_ n2_ n3_ n4_ n5_ n6_ n7_ n8_ n9_ n10_ n11_ n12_ n13_
    (try clear hb)
    (try clear hb2)
    (try clear hk)
    (try clear hi)
    refine hK.out _ _ ⟨(blk_cell BK272.out 0).trans rfl, (blk_cell BK272.out 1).trans rfl, (blk_cell BK272.out 2).trans rfl, (blk_cell BK272.out 3).trans rfl, (blk_cell BK272.out 4).trans rfl, (blk_cell BK321.out 0).trans rfl, (blk_cell BK321.out 1).trans rfl, (blk_cell BK321.out 2).trans rfl, (blk_cell BK321.out 3).trans rfl, (blk_cell BK321.out 4).trans rfl, (blk_cell BK321.out 5).trans rfl, (blk_cell BK321.out 6).trans rfl, (blk_cell BK321.out 7).trans rfl, (blk_cell BK321.out 8).trans rfl, (blk_cell BK321.out 9).trans rfl⟩ (fun hHeld => ?_)
    clear hK K
    refine norm_ (a' := ?_) ?_ ?_
    rotate_left
    ·show Act.put _ (some 24) _ = _
     simp only [Act.put, List.setIfInBounds_toArray, List.set_cons_zero, List.set_cons_succ, i64_w, i32_w]
     rfl
    refine pure_ (i := 4) (N := some 8) (v := ?_) (a' := ?_) #[true, true, true, true, true] rfl rfl (by kernel_rfl) (fun _ _ _ h => h) (Or.inl ⟨by rfl, ?_⟩) ?_ ?_
    rotate_left
    ·intro w'
     go_simp
     with_reducible rfl
    rotate_left
    ·simp only [Act.put, List.setIfInBounds_toArray, List.set_cons_zero, List.set_cons_succ, i64_w, i32_w]
     rfl
    refine done_ (by kernel_rfl) ?_
    try go_wp2
    have n0_ := Aside0.mk (Kd.R_drew HO285.out)
    have n1_ := Aside0.mk (Kd.R_drew HO288.out)
    have n2_ := Aside0.mk (Kd.R_drew HO293.out)
    have n3_ := Aside0.mk (Kd.R_drew HO296.out)
    have n4_ := Aside0.mk (Kd.S_drew HO299.out)
    have n5_ := Aside0.mk (Kd.R_drew HO306.out)
    have n6_ := Aside0.mk (Kd.R_drew HO309.out)
    have n7_ := Aside0.mk (Kd.R_drew HO314.out)
    have n8_ := Aside0.mk (Kd.R_drew HO317.out)
    have n9_ := Aside0.mk (Kd.S_drew HO320.out)
    have n10_ := Aside0.mk (blk_drew BK272.out)
    have n11_ := Aside0.mk (blk_drew BK273.out)
    have n12_ := Aside0.mk (blk_drew BK321.out)
    have n13_ := Aside0.mk (below_drew1 HB.out)
    clear HO285
    clear HO288
    clear HO293
    clear HO296
    clear HO299
    clear HO306
    clear HO309
    clear HO314
    clear HO317
    clear HO320
    clear BK272
    clear BK273
    clear BK321
    clear HB
    have HO285 := n0_
    have HO288 := n1_
    have HO293 := n2_
    have HO296 := n3_
    have HO299 := n4_
    have HO306 := n5_
    have HO309 := n6_
    have HO314 := n7_
    have HO317 := n8_
    have HO320 := n9_
    have BK272 := n10_
    have BK273 := n11_
    have BK321 := n12_
    have HB := n13_
    clear n0_ n1_ n2_ n3_ n4_ n5_ n6_ n7_ n8_ n9_ n10_ n11_ n12_ n13_
    refine start_ (n := 5) (S := fun w' => w'.cell? ⟨gb321, 0, none⟩ = some (.int .i64 t301) ∧ w'.cell? ⟨gb321, 1, none⟩ = some (.int .i64 t302) ∧ w'.cell? ⟨gb321, 2, none⟩ = some (.int .i64 t303) ∧ w'.cell? ⟨gb321, 3, none⟩ = some (.slice Ao37 t304.length co37) ∧ w'.cell? ⟨gb321, 4, none⟩ = some (.slice Ao38 t307.length co38) ∧ w'.cell? ⟨gb321, 5, none⟩ = some (.int .i64 t310) ∧ w'.cell? ⟨gb321, 6, none⟩ = some (.int .i64 t311) ∧ w'.cell? ⟨gb321, 7, none⟩ = some (.slice Ao39 t312.length co39) ∧ w'.cell? ⟨gb321, 8, none⟩ = some (.slice Ao40 t315.length co40) ∧ w'.cell? ⟨gb321, 9, none⟩ = some (.slice Ao41 t318.length co41) ∧ w'.cell? ⟨gb273, 0, none⟩ = some (.int .i64 a1_0) ∧ w'.cell? ⟨gb273, 1, none⟩ = some (.int .i64 a1_1) ∧ w'.cell? ⟨gb273, 2, none⟩ = some (.int .i64 a1_2) ∧ w'.cell? ⟨gb273, 3, none⟩ = some (.slice A1_3 l1_3.length c1_3) ∧ w'.cell? ⟨gb273, 4, none⟩ = some (.slice A1_4 l1_4.length c1_4) ∧ w'.cell? ⟨gb273, 5, none⟩ = some (.int .i64 a1_5) ∧ w'.cell? ⟨gb273, 6, none⟩ = some (.int .i64 a1_6) ∧ w'.cell? ⟨gb273, 7, none⟩ = some (.slice A1_7 l1_7.length c1_7) ∧ w'.cell? ⟨gb273, 8, none⟩ = some (.slice A1_8 l1_8.length c1_8) ∧ w'.cell? ⟨gb273, 9, none⟩ = some (.slice A1_9 l1_9.length c1_9)) (ds := []) #[false, false, false, false, false] (by kernel_rfl) rfl rfl ⟨(blk_cell BK321.out 0).trans rfl, (blk_cell BK321.out 1).trans rfl, (blk_cell BK321.out 2).trans rfl, (blk_cell BK321.out 3).trans rfl, (blk_cell BK321.out 4).trans rfl, (blk_cell BK321.out 5).trans rfl, (blk_cell BK321.out 6).trans rfl, (blk_cell BK321.out 7).trans rfl, (blk_cell BK321.out 8).trans rfl, (blk_cell BK321.out 9).trans rfl, (blk_cell BK273.out 0).trans rfl, (blk_cell BK273.out 1).trans rfl, (blk_cell BK273.out 2).trans rfl, (blk_cell BK273.out 3).trans rfl, (blk_cell BK273.out 4).trans rfl, (blk_cell BK273.out 5).trans rfl, (blk_cell BK273.out 6).trans rfl, (blk_cell BK273.out 7).trans rfl, (blk_cell BK273.out 8).trans rfl, (blk_cell BK273.out 9).trans rfl⟩ (fun hHeld => ?_)
    generalize w45.drew = w46 at HO285 HO288 HO293 HO296 HO299 HO306 HO309 HO314 HO317 HO320 BK272 BK273 BK321 HB hHeld ⊢
    refine take_ (i := 0) (N := some 28) (v := ?_) (a' := ?_) #[true, false, false, false, false] rfl rfl (by kernel_rfl) (fun _ _ _ h => h) (Or.inl ⟨by rfl, ?_⟩) hHeld ?_ ?_
    rotate_left
    ·rintro w' ⟨s0, s1, s2, s3, s4, s5, s6, s7, s8, s9, s10, s11, s12, s13, s14, s15, s16, s17, s18, s19⟩
     go_simp
     with_reducible rfl
    rotate_left
    ·simp only [Act.put, List.setIfInBounds_toArray, List.set_cons_zero, List.set_cons_succ, i64_w, i32_w]
     rfl
    refine take_ (i := 1) (N := some 29) (v := ?_) (a' := ?_) #[true, true, false, false, false] rfl rfl (by kernel_rfl) (fun _ _ _ h => h) (Or.inl ⟨by rfl, ?_⟩) hHeld ?_ ?_
    rotate_left
    ·rintro w' ⟨s0, s1, s2, s3, s4, s5, s6, s7, s8, s9, s10, s11, s12, s13, s14, s15, s16, s17, s18, s19⟩
     go_simp
     with_reducible rfl
    rotate_left
    ·simp only [Act.put, List.setIfInBounds_toArray, List.set_cons_zero, List.set_cons_succ, i64_w, i32_w]
     rfl
    refine one_ (i := 2) (N := some 30) #[true, true, true, false, false] rfl rfl (by kernel_rfl) (by decide) (fun K hK => ?_)
    refine goes_ Try.func28 (by kernel_rfl) rfl #[.agg #[.int .i64 a1_0, .int .i64 a1_1, .int .i64 a1_2, .slice A1_3 l1_3.length c1_3, .slice A1_4 l1_4.length c1_4, .int .i64 a1_5, .int .i64 a1_6, .slice A1_7 l1_7.length c1_7, .slice A1_8 l1_8.length c1_8, .slice A1_9 l1_9.length c1_9]] (by rfl) rfl rfl (by (try simp only [List.map_toArray, List.map_cons, List.map_nil]); first | done | rfl | (simp only [List.length_drop, List.length_take]; rfl)) ?_
    with_reducible refine (laws_toHead.calls k a1_0 a1_1 a1_2 _ _ l1_3 _ _ l1_4 a1_5 a1_6 _ _ l1_7 _ _ l1_8 _ _ l1_9 t328 t329 t330 t331 t334 t337 t338 t339 t342 t345 _ ?side1 ?side2 ?side3 ?side4 ?side5 ?side6 ?side7 ?side8 ?side9 ?side10 A18.out).mono ?_
    (case side1 => exact Kd.C_mv HR1_3 HB)
    (case side2 => exact HC1_3.out)
    (case side3 => exact Kd.C_mv HR1_4 HB)
    (case side4 => exact HC1_4.out)
    (case side5 => exact Kd.C_mv HR1_7 HB)
    (case side6 => exact HC1_7.out)
    (case side7 => exact Kd.C_mv HR1_8 HB)
    (case side8 => exact HC1_8.out)
    (case side9 => exact Kd.C_mv HR1_9 HB)
    (case side10 => exact HC1_9.out)
    rintro e w47 ⟨v332, v335, v340, v343, v346, rfl, ho0, ho1, ho2, ho3, ho4, hb⟩
    refine ⟨_, rfl, ?_⟩
    have n0_ := Aside0.mk (Kd.R_below (Kd.R_mv HO285) hb)
    have n1_ := Aside0.mk (Kd.R_below (Kd.R_mv HO288) hb)
    have n2_ := Aside0.mk (Kd.R_below (Kd.R_mv HO293) hb)
    have n3_ := Aside0.mk (Kd.R_below (Kd.R_mv HO296) hb)
    have n4_ := Aside0.mk (Kd.S_below (Kd.S_mv HO299) hb)
    have n5_ := Aside0.mk (Kd.R_below (Kd.R_mv HO306) hb)
    have n6_ := Aside0.mk (Kd.R_below (Kd.R_mv HO309) hb)
    have n7_ := Aside0.mk (Kd.R_below (Kd.R_mv HO314) hb)
    have n8_ := Aside0.mk (Kd.R_below (Kd.R_mv HO317) hb)
    have n9_ := Aside0.mk (Kd.S_below (Kd.S_mv HO320) hb)
    have n10_ := Aside0.mk (Kd.R_lower ho0 (below_size (by repeat (first | (with_reducible first | exact HB.out | apply below_alloc | apply pw_below_drewN | apply below_drew1 | refine below_set ?_ GE272.out | refine below_set ?_ GE273.out | refine below_set ?_ GE321.out) | exact HB.out))))
    have n11_ := Aside0.mk (Kd.R_lower ho1 (below_size (by repeat (first | (with_reducible first | exact HB.out | apply below_alloc | apply pw_below_drewN | apply below_drew1 | refine below_set ?_ GE272.out | refine below_set ?_ GE273.out | refine below_set ?_ GE321.out) | exact HB.out))))
    have n12_ := Aside0.mk (Kd.R_lower ho2 (below_size (by repeat (first | (with_reducible first | exact HB.out | apply below_alloc | apply pw_below_drewN | apply below_drew1 | refine below_set ?_ GE272.out | refine below_set ?_ GE273.out | refine below_set ?_ GE321.out) | exact HB.out))))
    have n13_ := Aside0.mk (Kd.R_lower ho3 (below_size (by repeat (first | (with_reducible first | exact HB.out | apply below_alloc | apply pw_below_drewN | apply below_drew1 | refine below_set ?_ GE272.out | refine below_set ?_ GE273.out | refine below_set ?_ GE321.out) | exact HB.out))))
    have n14_ := Aside0.mk (Kd.S_lower ho4 (below_size (by repeat (first | (with_reducible first | exact HB.out | apply below_alloc | apply pw_below_drewN | apply below_drew1 | refine below_set ?_ GE272.out | refine below_set ?_ GE273.out | refine below_set ?_ GE321.out) | exact HB.out))))
    have n15_ := Aside0.mk (blk_below (blk_mv BK272) hb)
    have n16_ := Aside0.mk (blk_below (blk_mv BK273) hb)
    have n17_ := Aside0.mk (blk_below (blk_mv BK321) hb)
    have n18_ := Aside0.mk (below_step (by repeat (first | (with_reducible first | exact HB.out | apply below_alloc | apply pw_below_drewN | apply below_drew1 | refine below_set ?_ GE272.out | refine below_set ?_ GE273.out | refine below_set ?_ GE321.out) | exact HB.out)) hb)
    clear HO285
    clear HO288
    clear HO293
    clear HO296
    clear HO299
    clear HO306
    clear HO309
    clear HO314
    clear HO317
    clear HO320
    clear BK272
    clear BK273
    clear BK321
    clear HB
    have HO285 := n0_
    have HO288 := n1_
    have HO293 := n2_
    have HO296 := n3_
    have HO299 := n4_
    have HO306 := n5_
    have HO309 := n6_
    have HO314 := n7_
    have HO317 := n8_
    have HO320 := n9_
    have HO333 := n10_
    have HO336 := n11_
    have HO341 := n12_
    have HO344 := n13_
    have HO347 := n14_
    have BK272 := n15_
    have BK273 := n16_
    have BK321 := n17_
    have HB := n18_
    clear n0_ n1_ n2_ n3_ n4_ n5_ n6_ n7_ n8_ n9_ n10_ n11_ n12_ n13_ n14_ n15_ n16_ n17_ n18_
    (try clear hb)
    (try clear hb2)
    (try clear hk)
    (try clear hi)
    (try clear ho0)
    (try clear ho1)
    (try clear ho2)
    (try clear ho3)
    (try clear ho4)
    obtain ⟨Ao48, co48, eo48⟩ := Kd.R_slice HO333.out
    (first | subst eo48 | (injection eo48 with f1_ f2_ f3_; have f4_ := f1_.symm; have f5_ := f3_.symm; clear f1_ f2_ f3_; subst f4_; subst f5_))
    obtain ⟨Ao49, co49, eo49⟩ := Kd.R_slice HO336.out
    (first | subst eo49 | (injection eo49 with f1_ f2_ f3_; have f4_ := f1_.symm; have f5_ := f3_.symm; clear f1_ f2_ f3_; subst f4_; subst f5_))
    obtain ⟨Ao50, co50, eo50⟩ := Kd.R_slice HO341.out
    (first | subst eo50 | (injection eo50 with f1_ f2_ f3_; have f4_ := f1_.symm; have f5_ := f3_.symm; clear f1_ f2_ f3_; subst f4_; subst f5_))
    obtain ⟨Ao51, co51, eo51⟩ := Kd.R_slice HO344.out
    (first | subst eo51 | (injection eo51 with f1_ f2_ f3_; have f4_ := f1_.symm; have f5_ := f3_.symm; clear f1_ f2_ f3_; subst f4_; subst f5_))
    obtain ⟨Ao52, co52, eo52⟩ := Kd.S_slice HO347.out
    (first | subst eo52 | (injection eo52 with f1_ f2_ f3_; have f4_ := f1_.symm; have f5_ := f3_.symm; clear f1_ f2_ f3_; subst f4_; subst f5_))
    refine hK.out _ _ ⟨(blk_cell BK321.out 0).trans rfl, (blk_cell BK321.out 1).trans rfl, (blk_cell BK321.out 2).trans rfl, (blk_cell BK321.out 3).trans rfl, (blk_cell BK321.out 4).trans rfl, (blk_cell BK321.out 5).trans rfl, (blk_cell BK321.out 6).trans rfl, (blk_cell BK321.out 7).trans rfl, (blk_cell BK321.out 8).trans rfl, (blk_cell BK321.out 9).trans rfl, (blk_cell BK273.out 0).trans rfl, (blk_cell BK273.out 1).trans rfl, (blk_cell BK273.out 2).trans rfl, (blk_cell BK273.out 3).trans rfl, (blk_cell BK273.out 4).trans rfl, (blk_cell BK273.out 5).trans rfl, (blk_cell BK273.out 6).trans rfl, (blk_cell BK273.out 7).trans rfl, (blk_cell BK273.out 8).trans rfl, (blk_cell BK273.out 9).trans rfl⟩ (fun hHeld => ?_)
    clear hK K
    refine norm_ (a' := ?_) ?_ ?_
    rotate_left
    ·show Act.put _ (some 30) _ = _
     simp only [Act.put, List.setIfInBounds_toArray, List.set_cons_zero, List.set_cons_succ, i64_w, i32_w]
     rfl
    refine one_ (i := 3) (N := some 31) #[true, true, true, true, false] rfl rfl (by kernel_rfl) (by decide) (fun K hK => ?_)
    refine goes_ Try.func30 (by kernel_rfl) rfl #[.agg #[.int .i64 t301, .int .i64 t302, .int .i64 t303, .slice Ao37 t304.length co37, .slice Ao38 t307.length co38, .int .i64 t310, .int .i64 t311, .slice Ao39 t312.length co39, .slice Ao40 t315.length co40, .slice Ao41 t318.length co41], .agg #[.int .i64 t328, .int .i64 t329, .int .i64 t330, .slice Ao48 t331.length co48, .slice Ao49 t334.length co49, .int .i64 t337, .int .i64 t338, .slice Ao50 t339.length co50, .slice Ao51 t342.length co51, .slice Ao52 t345.length co52]] (by rfl) rfl rfl (by (try simp only [List.map_toArray, List.map_cons, List.map_nil]); first | done | rfl | (simp only [List.length_drop, List.length_take]; rfl)) ?_
    with_reducible refine (laws_eqHead.calls k t301 t302 t303 _ _ t304 _ _ t307 t310 t311 _ _ t312 _ _ t315 _ _ t318 t328 t329 t330 _ _ t331 _ _ t334 t337 t338 _ _ t339 _ _ t342 _ _ t345 true _ ?side1 ?side2 ?side3 ?side4 ?side5 ?side6 ?side7 ?side8 ?side9 ?side10 ?side11 ?side12 ?side13 ?side14 ?side15 ?side16 ?side17 ?side18 ?side19 ?side20 A19.out).mono ?_
    (case side1 => repeat (first | exact (Kd.R_reads' HO306.out).2.2 | (with_reducible refine Kd.C_alloc ?_ _) | (with_reducible refine Kd.C_drewN ?_ _) | (with_reducible refine Kd.C_drew ?_)))
    (case side2 => exact (Kd.R_reads' HO306.out).2.1)
    (case side3 => repeat (first | exact (Kd.R_reads' HO309.out).2.2 | (with_reducible refine Kd.C_alloc ?_ _) | (with_reducible refine Kd.C_drewN ?_ _) | (with_reducible refine Kd.C_drew ?_)))
    (case side4 => exact (Kd.R_reads' HO309.out).2.1)
    (case side5 => repeat (first | exact (Kd.R_reads' HO314.out).2.2 | (with_reducible refine Kd.C_alloc ?_ _) | (with_reducible refine Kd.C_drewN ?_ _) | (with_reducible refine Kd.C_drew ?_)))
    (case side6 => exact (Kd.R_reads' HO314.out).2.1)
    (case side7 => repeat (first | exact (Kd.R_reads' HO317.out).2.2 | (with_reducible refine Kd.C_alloc ?_ _) | (with_reducible refine Kd.C_drewN ?_ _) | (with_reducible refine Kd.C_drew ?_)))
    (case side8 => exact (Kd.R_reads' HO317.out).2.1)
    (case side9 => repeat (first | exact (Kd.S_reads' HO320.out).2.2 | (with_reducible refine Kd.C_alloc ?_ _) | (with_reducible refine Kd.C_drewN ?_ _) | (with_reducible refine Kd.C_drew ?_)))
    (case side10 => exact (Kd.S_reads' HO320.out).2.1)
    (case side11 => repeat (first | exact (Kd.R_reads' HO333.out).2.2 | (with_reducible refine Kd.C_alloc ?_ _) | (with_reducible refine Kd.C_drewN ?_ _) | (with_reducible refine Kd.C_drew ?_)))
    (case side12 => exact (Kd.R_reads' HO333.out).2.1)
    (case side13 => repeat (first | exact (Kd.R_reads' HO336.out).2.2 | (with_reducible refine Kd.C_alloc ?_ _) | (with_reducible refine Kd.C_drewN ?_ _) | (with_reducible refine Kd.C_drew ?_)))
    (case side14 => exact (Kd.R_reads' HO336.out).2.1)
    (case side15 => repeat (first | exact (Kd.R_reads' HO341.out).2.2 | (with_reducible refine Kd.C_alloc ?_ _) | (with_reducible refine Kd.C_drewN ?_ _) | (with_reducible refine Kd.C_drew ?_)))
    (case side16 => exact (Kd.R_reads' HO341.out).2.1)
    (case side17 => repeat (first | exact (Kd.R_reads' HO344.out).2.2 | (with_reducible refine Kd.C_alloc ?_ _) | (with_reducible refine Kd.C_drewN ?_ _) | (with_reducible refine Kd.C_drew ?_)))
    (case side18 => exact (Kd.R_reads' HO344.out).2.1)
    (case side19 => repeat (first | exact (Kd.S_reads' HO347.out).2.2 | (with_reducible refine Kd.C_alloc ?_ _) | (with_reducible refine Kd.C_drewN ?_ _) | (with_reducible refine Kd.C_drew ?_)))
    (case side20 => exact (Kd.S_reads' HO347.out).2.1)
    rintro e w53 ⟨rfl, hb⟩
    refine ⟨_, rfl, ?_⟩
    have n0_ := Aside0.mk (Kd.R_below (Kd.R_mv HO285) hb)
    have n1_ := Aside0.mk (Kd.R_below (Kd.R_mv HO288) hb)
    have n2_ := Aside0.mk (Kd.R_below (Kd.R_mv HO293) hb)
    have n3_ := Aside0.mk (Kd.R_below (Kd.R_mv HO296) hb)
    have n4_ := Aside0.mk (Kd.S_below (Kd.S_mv HO299) hb)
    have n5_ := Aside0.mk (Kd.R_below (Kd.R_mv HO306) hb)
    have n6_ := Aside0.mk (Kd.R_below (Kd.R_mv HO309) hb)
    have n7_ := Aside0.mk (Kd.R_below (Kd.R_mv HO314) hb)
    have n8_ := Aside0.mk (Kd.R_below (Kd.R_mv HO317) hb)
    have n9_ := Aside0.mk (Kd.S_below (Kd.S_mv HO320) hb)
    have n10_ := Aside0.mk (Kd.R_below (Kd.R_mv HO333) hb)
    have n11_ := Aside0.mk (Kd.R_below (Kd.R_mv HO336) hb)
    have n12_ := Aside0.mk (Kd.R_below (Kd.R_mv HO341) hb)
    have n13_ := Aside0.mk (Kd.R_below (Kd.R_mv HO344) hb)
    have n14_ := Aside0.mk (Kd.S_below (Kd.S_mv HO347) hb)
    have n15_ := Aside0.mk (blk_below (blk_mv BK272) hb)
    have n16_ := Aside0.mk (blk_below (blk_mv BK273) hb)
    have n17_ := Aside0.mk (blk_below (blk_mv BK321) hb)
    have n18_ := Aside0.mk (below_step (by repeat (first | (with_reducible first | exact HB.out | apply below_alloc | apply pw_below_drewN | apply below_drew1 | refine below_set ?_ GE272.out | refine below_set ?_ GE273.out | refine below_set ?_ GE321.out) | exact HB.out)) hb)
    clear HO285
    clear HO288
    clear HO293
    clear HO296
    clear HO299
    clear HO306
    clear HO309
    clear HO314
    clear HO317
    clear HO320
    clear HO333
    clear HO336
    clear HO341
    clear HO344
    clear HO347
    clear BK272
    clear BK273
    clear BK321
    clear HB
    have HO285 := n0_
    have HO288 := n1_
    have HO293 := n2_
    have HO296 := n3_
    have HO299 := n4_
    have HO306 := n5_
    have HO309 := n6_
    have HO314 := n7_
    have HO317 := n8_
    have HO320 := n9_
    have HO333 := n10_
    have HO336 := n11_
    have HO341 := n12_
    have HO344 := n13_
    have HO347 := n14_
    have BK272 := n15_
    have BK273 := n16_
    have BK321 := n17_
    have HB := n18_
    clear n0_ n1_ n2_ n3_ n4_ n5_ n6_ n7_ n8_ n9_ n10_ n11_ n12_ n13_ n14_ n15_ n16_ n17_ n18_
    (try clear hb)
    (try clear hb2)
    (try clear hk)
    (try clear hi)
    refine hK.out _ _ ⟨(blk_cell BK321.out 0).trans rfl, (blk_cell BK321.out 1).trans rfl, (blk_cell BK321.out 2).trans rfl, (blk_cell BK321.out 3).trans rfl, (blk_cell BK321.out 4).trans rfl, (blk_cell BK321.out 5).trans rfl, (blk_cell BK321.out 6).trans rfl, (blk_cell BK321.out 7).trans rfl, (blk_cell BK321.out 8).trans rfl, (blk_cell BK321.out 9).trans rfl, (blk_cell BK273.out 0).trans rfl, (blk_cell BK273.out 1).trans rfl, (blk_cell BK273.out 2).trans rfl, (blk_cell BK273.out 3).trans rfl, (blk_cell BK273.out 4).trans rfl, (blk_cell BK273.out 5).trans rfl, (blk_cell BK273.out 6).trans rfl, (blk_cell BK273.out 7).trans rfl, (blk_cell BK273.out 8).trans rfl, (blk_cell BK273.out 9).trans rfl⟩ (fun hHeld => ?_)
    clear hK K
    refine norm_ (a' := ?_) ?_ ?_
    rotate_left
    ·show Act.put _ (some 31) _ = _
     simp only [Act.put, List.setIfInBounds_toArray, List.set_cons_zero, List.set_cons_succ, i64_w, i32_w]
     rfl
    refine pure_ (i := 4) (N := some 32) (v := ?_) (a' := ?_) #[true, true, true, true, true] rfl rfl (by kernel_rfl) (fun _ _ _ h => h) (Or.inl ⟨by rfl, ?_⟩) ?_ ?_
    rotate_left
    ·intro w'
     go_simp
     with_reducible rfl
    rotate_left
    ·simp only [Act.put, List.setIfInBounds_toArray, List.set_cons_zero, List.set_cons_succ, i64_w, i32_w]
     rfl
    refine done_ (by kernel_rfl) ?_
    try go_wp2
    go_ret
    exact ⟨by first | rfl | (simp [errW_none, errW_some] <;> rfl) | (simp [*, errW_none, errW_some] <;> rfl), by repeat (first | (with_reducible first | exact HB.out | apply below_alloc | apply pw_below_drewN | apply below_drew1 | refine below_set ?_ GE272.out | refine below_set ?_ GE273.out | refine below_set ?_ GE321.out) | exact HB.out)⟩
   ·replace c20 := Bool.eq_false_iff.mpr c20
    subst c20
    have H1 : (none) = some r := by rw [if_neg (show ¬ (false = true) by decide)] at H; exact H
    clear H
    have H := H1
    clear H1
    exact absurd H (by simp)

end Go.Proofs.Ytniapflmmigbjaa.PFnExactHeadOk
