-- by a program of this session (wip/gen), out of the translation. Not trusted: Lean checks it.
import Derived.Test.YtniapflmmigbjaaPFnExactProofOkx0
import Derived.Test.YtniapflmmigbjaaPFnExactProofOkx1
import Derived.Test.YtniapflmmigbjaaPFnExactProofOkx2
import Derived.Test.YtniapflmmigbjaaPFnExactProofOkx3
import Derived.Test.YtniapflmmigbjaaPFnExactProofOkx6
import Derived.Test.YtniapflmmigbjaaPFnExactProofOkx9
namespace Go.Proofs.Ytniapflmmigbjaa.PFnExactProofOk
open Go.RowKit Go.Proofs.YtniapflmmigbjaaW.PrintWords Go.Proofs.YtniapflmmigbjaaW.PrintLast Go.Proofs.YtniapflmmigbjaaW.PrintMore
attribute [local go_sem] max2_int min2_int max_two min_two max_three min_three max_four min_four   -- for this text's walks alone
set_option linter.unusedVariables false
set_option linter.unusedSimpArgs false

/-! ### laws_FnExactProofOk: function 12 -/
def laws_FnExactProofOk.f (k : Nat) (a0_0 : Int) (a0_1 : Int) (a0_2 : Int) (a0_3 : Int) (a0_4 : Int) (l1_0 : List (S50)) (a1_1 : Int) (a1_2 : Int) (l1_3 : List Int) (l1_4 : List Int) (l1_5 : List (List Int)) : Option (Bool) := (laws_szProof.f k l1_0 a1_1 a1_2 l1_3 l1_4 l1_5 1048576).bind fun t353 => (if t353 < 0 then (some true) else ((laws_toLimits.f a0_0 a0_1 a0_2 a0_3 a0_4).bind fun bt354 => ((laws_toProof.f k l1_0 a1_1 a1_2 l1_3 l1_4 l1_5).bind fun bt359 => ((spec_ProofOk.f k bt354.1 bt354.2.1 bt354.2.2.1 bt354.2.2.2.1 bt354.2.2.2.2 bt359.1 bt359.2.1 bt359.2.2.1 bt359.2.2.2.1 bt359.2.2.2.2.1 bt359.2.2.2.2.2).bind fun t373 => ((laws_toProof.f k l1_0 a1_1 a1_2 l1_3 l1_4 l1_5).bind fun bt374 => ((laws_toLimits.f a0_0 a0_1 a0_2 a0_3 a0_4).bind fun bt389 => ((impl_ProofOk.f k bt389.1 bt389.2.1 bt389.2.2.1 bt389.2.2.2.1 bt389.2.2.2.2 bt374.1 bt374.2.1 bt374.2.2.1 bt374.2.2.2.1 bt374.2.2.2.2.1 bt374.2.2.2.2.2).bind fun t394 => (if (t394 != t373) = true then (none) else ((laws_toProof.f k l1_0 a1_1 a1_2 l1_3 l1_4 l1_5).bind fun bt395 => ((laws_eqProof.f k bt374.1 bt374.2.1 bt374.2.2.1 bt374.2.2.2.1 bt374.2.2.2.2.1 bt374.2.2.2.2.2 bt395.1 bt395.2.1 bt395.2.2.1 bt395.2.2.2.1 bt395.2.2.2.2.1 bt395.2.2.2.2.2).bind fun t409 => (if t409 = true then (some true) else (none))))))))))))
theorem laws_FnExactProofOk.mono : ∀ a0 a1 a2 a3 a4 a5 a6 a7 a8 a9 a10 k, LeO (laws_FnExactProofOk.f k a0 a1 a2 a3 a4 a5 a6 a7 a8 a9 a10) (laws_FnExactProofOk.f (k + 1) a0 a1 a2 a3 a4 a5 a6 a7 a8 a9 a10) := by
 intro a0 a1 a2 a3 a4 a5 a6 a7 a8 a9 a10 k
 unfold laws_FnExactProofOk.f
 repeat' first
   | (with_reducible exact impl_ProofOk.mono _ _ _ _ _ _ _ _ _ _ _ _)
   | (with_reducible exact laws_eqProof.mono _ _ _ _ _ _ _ _ _ _ _ _ _)
   | (with_reducible exact laws_szProof.mono _ _ _ _ _ _ _ _)
   | (with_reducible exact laws_toProof.mono _ _ _ _ _ _ _)
   | (with_reducible exact spec_ProofOk.mono _ _ _ _ _ _ _ _ _ _ _ _)
   | (with_reducible exact LeO.refl _)
   | (with_reducible exact LeO.none _)
   | (with_reducible refine LeO.ite ?_ ?_)
   | (with_reducible refine LeO.bind ?_ (fun _ => ?_))
   | exact impl_ProofOk.mono _ _ _ _ _ _ _ _ _ _ _ _
   | exact laws_eqProof.mono _ _ _ _ _ _ _ _ _ _ _ _ _
   | exact laws_szProof.mono _ _ _ _ _ _ _ _
   | exact laws_toProof.mono _ _ _ _ _ _ _
   | exact spec_ProofOk.mono _ _ _ _ _ _ _ _ _ _ _ _
   | exact LeO.none _
   | refine LeO.ite ?_ ?_
   | refine LeO.bind ?_ (fun _ => ?_)
set_option maxHeartbeats 8000000 in
set_option maxRecDepth 100000 in
theorem laws_FnExactProofOk.calls (k : Nat) (a0_0 : Int) (a0_1 : Int) (a0_2 : Int) (a0_3 : Int) (a0_4 : Int) (A1_0 : Option Addr) (c1_0 : Nat) (l1_0 : List (S50)) (a1_1 : Int) (a1_2 : Int) (A1_3 : Option Addr) (c1_3 : Nat) (l1_3 : List Int) (A1_4 : Option Addr) (c1_4 : Nat) (l1_4 : List Int) (A1_5 : Option Addr) (c1_5 : Nat) (l1_5 : List (List Int)) (r : Bool) (w : World) (hr1_0 : Kd.C k50 w A1_0 l1_0.length l1_0) (hc1_0 : l1_0.length ≤ c1_0) (hr1_3 : Kd.C (Kd.int .u8) w A1_3 l1_3.length l1_3) (hc1_3 : l1_3.length ≤ c1_3) (hr1_4 : Kd.C (Kd.int .u8) w A1_4 l1_4.length l1_4) (hc1_4 : l1_4.length ≤ c1_4) (hr1_5 : Kd.C (Kd.slice 5 (Kd.int .u8)) w A1_5 l1_5.length l1_5) (hc1_5 : l1_5.length ≤ c1_5) (h : laws_FnExactProofOk.f k a0_0 a0_1 a0_2 a0_3 a0_4 l1_0 a1_1 a1_2 l1_3 l1_4 l1_5 = some r) :
  Calls Try.prog 12 #[.agg #[.int .i64 a0_0, .int .i64 a0_1, .int .i64 a0_2, .int .i64 a0_3, .int .i64 a0_4], .agg #[.slice A1_0 l1_0.length c1_0, .int .i64 a1_1, .int .i64 a1_2, .slice A1_3 l1_3.length c1_3, .slice A1_4 l1_4.length c1_4, .slice A1_5 l1_5.length c1_5]] w fun e w' => e = .returned (.bool r) ∧ Below w.heap.size w w' := by
 have hu23 := Try.underlying23
 have hu79 := Try.underlying79
 have hu84 := Try.underlying84
 have HR1_0 := Aside0.mk hr1_0
 have HC1_0 := Aside0.mk hc1_0
 clear hr1_0 hc1_0
 have HR1_3 := Aside0.mk hr1_3
 have HC1_3 := Aside0.mk hc1_3
 clear hr1_3 hc1_3
 have HR1_4 := Aside0.mk hr1_4
 have HC1_4 := Aside0.mk hc1_4
 clear hr1_4 hc1_4
 have HR1_5 := Aside0.mk hr1_5
 have HC1_5 := Aside0.mk hc1_5
 clear hr1_5 hc1_5
 have HB := Aside0.mk (Below.refl w.heap.size w)
 have H : ((laws_szProof.f k l1_0 a1_1 a1_2 l1_3 l1_4 l1_5 1048576).bind fun t353 => (if t353 < 0 then (some true) else ((laws_toLimits.f a0_0 a0_1 a0_2 a0_3 a0_4).bind fun bt354 => ((laws_toProof.f k l1_0 a1_1 a1_2 l1_3 l1_4 l1_5).bind fun bt359 => ((spec_ProofOk.f k bt354.1 bt354.2.1 bt354.2.2.1 bt354.2.2.2.1 bt354.2.2.2.2 bt359.1 bt359.2.1 bt359.2.2.1 bt359.2.2.2.1 bt359.2.2.2.2.1 bt359.2.2.2.2.2).bind fun t373 => ((laws_toProof.f k l1_0 a1_1 a1_2 l1_3 l1_4 l1_5).bind fun bt374 => ((laws_toLimits.f a0_0 a0_1 a0_2 a0_3 a0_4).bind fun bt389 => ((impl_ProofOk.f k bt389.1 bt389.2.1 bt389.2.2.1 bt389.2.2.2.1 bt389.2.2.2.2 bt374.1 bt374.2.1 bt374.2.2.1 bt374.2.2.2.1 bt374.2.2.2.2.1 bt374.2.2.2.2.2).bind fun t394 => (if (t394 != t373) = true then (none) else ((laws_toProof.f k l1_0 a1_1 a1_2 l1_3 l1_4 l1_5).bind fun bt395 => ((laws_eqProof.f k bt374.1 bt374.2.1 bt374.2.2.1 bt374.2.2.2.1 bt374.2.2.2.2.1 bt374.2.2.2.2.2 bt395.1 bt395.2.1 bt395.2.2.1 bt395.2.2.2.1 bt395.2.2.2.2.1 bt395.2.2.2.2.2).bind fun t409 => (if t409 = true then (some true) else (none))))))))))))) = some r := h
 clear h
 replace H := Option.bind_eq_some_iff.mp H
 obtain ⟨t353, A30, H⟩ := H
 try dsimp only at H
 have A3 := Aside0.mk A30
 clear A30
 have HC4 := Aside0.mk H
 clear H
 go_enter Try.func12, Try.ntmps12
 go_upto_if 13 with (first | ((with_reducible refine gate_dst (N := 2) rfl ?_); refine box_event ?hg (N := 2) ?hd (cs := #[.int .i64 a0_0, .int .i64 a0_1, .int .i64 a0_2, .int .i64 a0_3, .int .i64 a0_4]) (t := 23) ?hr ?_; (case hd => rfl); (case hg => rfl); (case hr => first | (go_simp; done) | (go_simp; rfl)); intro gb351 hg w5 hbox hb; have n0_ := Aside0.mk (below_step (by repeat (first | (with_reducible first | exact HB.out | apply below_alloc | apply pw_below_drewN | apply below_drew1) | exact HB.out)) hb); have n1_ := Aside0.mk (hbox); have n2_ := Aside0.mk ((by rw [hg]; exact (below_size (by repeat (first | (with_reducible first | exact HB.out | apply below_alloc | apply pw_below_drewN | apply below_drew1) | exact HB.out))) : w.heap.size ≤ gb351)); have n3_ := Aside0.mk ((by rw [hg]; exact (below_size (by repeat (first | (with_reducible first | exact HB.out | apply below_alloc | apply pw_below_drewN | apply below_drew1) | exact HB.out))) : w.heap.size ≤ gb351)); clear HB; have HB := n0_; have BK351 := n1_; have GW351 := n2_; have GE351 := n3_; clear n0_ n1_ n2_ n3_; clear hb hbox hg) | ((with_reducible refine gate_dst (N := 3) rfl ?_); refine box_event ?hg (N := 3) ?hd (cs := #[.slice A1_0 l1_0.length c1_0, .int .i64 a1_1, .int .i64 a1_2, .slice A1_3 l1_3.length c1_3, .slice A1_4 l1_4.length c1_4, .slice A1_5 l1_5.length c1_5]) (t := 79) ?hr ?_; (case hd => rfl); (case hg => rfl); (case hr => first | (go_simp; done) | (go_simp; rfl)); intro gb352 hg w6 hbox hb; have n0_ := Aside0.mk (blk_below (blk_mv BK351) hb); have n1_ := Aside0.mk (below_step (by repeat (first | (with_reducible first | exact HB.out | apply below_alloc | apply pw_below_drewN | apply below_drew1 | refine below_set ?_ GE351.out) | exact HB.out)) hb); have n2_ := Aside0.mk (hbox); have n3_ := Aside0.mk ((by rw [hg]; exact (below_size (by repeat (first | (with_reducible first | exact HB.out | apply below_alloc | apply pw_below_drewN | apply below_drew1 | refine below_set ?_ GE351.out) | exact HB.out))) : w.heap.size ≤ gb352)); have n4_ := Aside0.mk ((by rw [hg]; exact (below_size (by repeat (first | (with_reducible first | exact HB.out | apply below_alloc | apply pw_below_drewN | apply below_drew1 | refine below_set ?_ GE351.out) | exact HB.out))) : w.heap.size ≤ gb352)); have n5_ := Aside0.mk ((by rw [hg]; exact Nat.ne_of_lt (blk_lt (blk_mv BK351)) : gb351 ≠ gb352)); have n6_ := Aside0.mk ((by rw [hg]; exact Nat.ne_of_gt (blk_lt (blk_mv BK351)) : gb352 ≠ gb351)); clear BK351; clear HB; have BK351 := n0_; have HB := n1_; have BK352 := n2_; have GW352 := n3_; have GE352 := n4_; have NB351_352 := n5_; have NB352_351 := n6_; clear n0_ n1_ n2_ n3_ n4_ n5_ n6_; clear hb hbox hg; have hnb7 := NB352_351.out; have hnc7 := NB351_352.out; obtain ⟨hcz8_0, hcz8_1, hcz8_2, hcz8_3, hcz8_4, hcz8_5⟩ := blkA6 BK352.out; obtain ⟨hfz8_0, hfz8_1, hfz8_2, hfz8_3, hfz8_4, hfz8_5⟩ := blkF6 BK352.out) | ((with_reducible refine gate_callee (f := 47) rfl ?_); refine goesL_ (some 11) rfl rfl Try.func47 (by kernel_rfl) rfl #[.agg #[.slice A1_0 l1_0.length c1_0, .int .i64 a1_1, .int .i64 a1_2, .slice A1_3 l1_3.length c1_3, .slice A1_4 l1_4.length c1_4, .slice A1_5 l1_5.length c1_5], .int .i64 1048576] rfl (by (try simp only [List.map_toArray, List.map_cons, List.map_nil]); first | done | rfl | (simp only [List.length_drop, List.length_take]; rfl)) ?_; (with_reducible refine (laws_szProof.calls k _ _ l1_0 a1_1 a1_2 _ _ l1_3 _ _ l1_4 _ _ l1_5 1048576 t353 _ ?side1 ?side2 ?side3 ?side4 ?side5 ?side6 ?side7 ?side8 A3.out).mono ?_); (case side1 => exact Kd.C_mv HR1_0 HB); (case side2 => exact HC1_0.out); (case side3 => exact Kd.C_mv HR1_3 HB); (case side4 => exact HC1_3.out); (case side5 => exact Kd.C_mv HR1_4 HB); (case side6 => exact HC1_4.out); (case side7 => exact Kd.C_mv HR1_5 HB); (case side8 => exact HC1_5.out); rintro e w9 ⟨rfl, hb⟩; refine ⟨_, rfl, ?_⟩; have n0_ := Aside0.mk (blk_below (blk_mv BK351) hb); have n1_ := Aside0.mk (blk_below (blk_mv BK352) hb); have n2_ := Aside0.mk (below_step (by repeat (first | (with_reducible first | exact HB.out | apply below_alloc | apply pw_below_drewN | apply below_drew1 | refine below_set ?_ GE351.out | refine below_set ?_ GE352.out) | exact HB.out)) hb); clear BK351; clear BK352; clear HB; have BK351 := n0_; have BK352 := n1_; have HB := n2_; clear n0_ n1_ n2_; (try clear hb); (try clear hb2); (try clear hk); (try clear hi)))
 (try simp only [Act.put, List.setIfInBounds_toArray, List.set_cons_zero, List.set_cons_succ])
 have H := HC4.out
 clear HC4
 by_cases c10 : t353 < 0
 ·rw [if_pos c10] at H
  have c10b0 : decide (t353 < 0) = true := decide_eq_true c10
  clear c10
  (first | rw [c10b0] | (simp only [i64_w, i32_w]; rw [c10b0]) | skip)
  obtain rfl := Option.some.inj H
  go_wp2
  go_ret
  exact ⟨by first | rfl | (simp [errW_none, errW_some] <;> rfl) | (simp [*, errW_none, errW_some] <;> rfl), by repeat (first | (with_reducible first | exact HB.out | apply below_alloc | apply pw_below_drewN | apply below_drew1 | refine below_set ?_ GE351.out | refine below_set ?_ GE352.out) | exact HB.out)⟩
 ·rw [if_neg c10] at H
  have c10b0 : decide (t353 < 0) = false := decide_eq_false c10
  clear c10
  (first | rw [c10b0] | (simp only [i64_w, i32_w]; rw [c10b0]) | skip)
  replace H := Option.bind_eq_some_iff.mp H
  obtain ⟨⟨t354, t355, t356, t357, t358⟩, A110, H⟩ := H
  try dsimp only at H
  have A11 := Aside0.mk A110
  clear A110
  replace H := Option.bind_eq_some_iff.mp H
  obtain ⟨⟨t359, t362, t363, t364, t367, t370⟩, A120, H⟩ := H
  try dsimp only at H
  have A12 := Aside0.mk A120
  clear A120
  replace H := Option.bind_eq_some_iff.mp H
  obtain ⟨t373, A130, H⟩ := H
  try dsimp only at H
  have A13 := Aside0.mk A130
  clear A130
  replace H := Option.bind_eq_some_iff.mp H
  obtain ⟨⟨t374, t377, t378, t379, t382, t385⟩, A140, H⟩ := H
  try dsimp only at H
  have A14 := Aside0.mk A140
  clear A140
  replace H := Option.bind_eq_some_iff.mp H
  obtain ⟨⟨t389, t390, t391, t392, t393⟩, A150, H⟩ := H
  try dsimp only at H
  have A15 := Aside0.mk A150
  clear A150
  replace H := Option.bind_eq_some_iff.mp H
  obtain ⟨t394, A160, H⟩ := H
  try dsimp only at H
  have A16 := Aside0.mk A160
  clear A160
  by_cases c17 : (t394 != t373) = true
  ·rw [if_pos c17] at H
   exact absurd H (by simp)
  ·rw [if_neg c17] at H
   have c17b0 : (t394 != t373) = false := by simpa using c17
   (try (have c17b1 : decide (t394 = t373) = true := by simpa using c17))
   (try (have c17b2 : (t394 == t373) = true := by simpa using c17))
   clear c17
   replace H := Option.bind_eq_some_iff.mp H
   obtain ⟨⟨t395, t398, t399, t400, t403, t406⟩, A180, H⟩ := H
   try dsimp only at H
   have A18 := Aside0.mk A180
   clear A180
   replace H := Option.bind_eq_some_iff.mp H
   obtain ⟨t409, A190, H⟩ := H
   replace H : (if t409 = true then (some true) else (none)) = some r := H
   have A19 := Aside0.mk A190
   clear A190
   by_cases c20 : t409 = true
   ·subst c20
    have H1 : (some true) = some r := by rw [if_pos rfl] at H; exact H
    clear H
    have H := H1
    clear H1
    obtain rfl := Option.some.inj H
    try go_wp2
    have n0_ := Aside0.mk (blk_drew BK351.out)
    have n1_ := Aside0.mk (blk_drew BK352.out)
    have n2_ := Aside0.mk (below_drew1 HB.out)
    clear BK351
    clear BK352
    clear HB
    have BK351 := n0_
    have BK352 := n1_
    have HB := n2_
    clear n0_ n1_ n2_
    refine start_ (n := 6) (S := fun w' => w'.cell? ⟨gb351, 0, none⟩ = some (.int .i64 a0_0) ∧ w'.cell? ⟨gb351, 1, none⟩ = some (.int .i64 a0_1) ∧ w'.cell? ⟨gb351, 2, none⟩ = some (.int .i64 a0_2) ∧ w'.cell? ⟨gb351, 3, none⟩ = some (.int .i64 a0_3) ∧ w'.cell? ⟨gb351, 4, none⟩ = some (.int .i64 a0_4) ∧ w'.cell? ⟨gb352, 0, none⟩ = some (.slice A1_0 l1_0.length c1_0) ∧ w'.cell? ⟨gb352, 1, none⟩ = some (.int .i64 a1_1) ∧ w'.cell? ⟨gb352, 2, none⟩ = some (.int .i64 a1_2) ∧ w'.cell? ⟨gb352, 3, none⟩ = some (.slice A1_3 l1_3.length c1_3) ∧ w'.cell? ⟨gb352, 4, none⟩ = some (.slice A1_4 l1_4.length c1_4) ∧ w'.cell? ⟨gb352, 5, none⟩ = some (.slice A1_5 l1_5.length c1_5)) (ds := []) #[false, false, false, false, false, false] (by kernel_rfl) rfl rfl ⟨(blk_cell BK351.out 0).trans rfl, (blk_cell BK351.out 1).trans rfl, (blk_cell BK351.out 2).trans rfl, (blk_cell BK351.out 3).trans rfl, (blk_cell BK351.out 4).trans rfl, (blk_cell BK352.out 0).trans rfl, (blk_cell BK352.out 1).trans rfl, (blk_cell BK352.out 2).trans rfl, (blk_cell BK352.out 3).trans rfl, (blk_cell BK352.out 4).trans rfl, (blk_cell BK352.out 5).trans rfl⟩ (fun hHeld => ?_)
    generalize w9.drew = w21 at BK351 BK352 HB hHeld ⊢
    refine take_ (i := 0) (N := some 14) (v := ?_) (a' := ?_) #[true, false, false, false, false, false] rfl rfl (by kernel_rfl) (fun _ _ _ h => h) (Or.inl ⟨by rfl, ?_⟩) hHeld ?_ ?_
    rotate_left
    ·rintro w' ⟨s0, s1, s2, s3, s4, s5, s6, s7, s8, s9, s10⟩
     go_simp
     with_reducible rfl
    rotate_left
    ·simp only [Act.put, List.setIfInBounds_toArray, List.set_cons_zero, List.set_cons_succ, i64_w, i32_w]
     rfl
    refine take_ (i := 2) (N := some 16) (v := ?_) (a' := ?_) #[true, false, true, false, false, false] rfl rfl (by kernel_rfl) (fun _ _ _ h => h) (Or.inl ⟨by rfl, ?_⟩) hHeld ?_ ?_
    rotate_left
    ·rintro w' ⟨s0, s1, s2, s3, s4, s5, s6, s7, s8, s9, s10⟩
     go_simp
     with_reducible rfl
    rotate_left
    ·simp only [Act.put, List.setIfInBounds_toArray, List.set_cons_zero, List.set_cons_succ, i64_w, i32_w]
     rfl
    refine one_ (i := 1) (N := some 15) #[true, true, true, false, false, false] rfl rfl (by kernel_rfl) (by decide) (fun K hK => ?_)
    refine goes_ Try.func17 (by kernel_rfl) rfl #[.agg #[.int .i64 a0_0, .int .i64 a0_1, .int .i64 a0_2, .int .i64 a0_3, .int .i64 a0_4]] (by rfl) rfl rfl (by (try simp only [List.map_toArray, List.map_cons, List.map_nil]); first | done | rfl | (simp only [List.length_drop, List.length_take]; rfl)) ?_
    with_reducible refine (laws_toLimits.calls a0_0 a0_1 a0_2 a0_3 a0_4 t354 t355 t356 t357 t358 _ A11.out).mono ?_
    rintro e w22 ⟨rfl, hb⟩
    refine ⟨_, rfl, ?_⟩
    have n0_ := Aside0.mk (blk_below (blk_mv BK351) hb)
    have n1_ := Aside0.mk (blk_below (blk_mv BK352) hb)
    have n2_ := Aside0.mk (below_step (by repeat (first | (with_reducible first | exact HB.out | apply below_alloc | apply pw_below_drewN | apply below_drew1 | refine below_set ?_ GE351.out | refine below_set ?_ GE352.out) | exact HB.out)) hb)
    clear BK351
    clear BK352
    clear HB
    have BK351 := n0_
    have BK352 := n1_
    have HB := n2_
    clear n0_ n1_ n2_
    (try clear hb)
    (try clear hb2)
    (try clear hk)
    (try clear hi)
    refine hK.out _ _ ⟨(blk_cell BK351.out 0).trans rfl, (blk_cell BK351.out 1).trans rfl, (blk_cell BK351.out 2).trans rfl, (blk_cell BK351.out 3).trans rfl, (blk_cell BK351.out 4).trans rfl, (blk_cell BK352.out 0).trans rfl, (blk_cell BK352.out 1).trans rfl, (blk_cell BK352.out 2).trans rfl, (blk_cell BK352.out 3).trans rfl, (blk_cell BK352.out 4).trans rfl, (blk_cell BK352.out 5).trans rfl⟩ (fun hHeld => ?_)
    clear hK K
    refine norm_ (a' := ?_) ?_ ?_
    rotate_left
    ·show Act.put _ (some 15) _ = _
     simp only [Act.put, List.setIfInBounds_toArray, List.set_cons_zero, List.set_cons_succ, i64_w, i32_w]
     rfl
    refine one_ (i := 3) (N := some 17) #[true, true, true, true, false, false] rfl rfl (by kernel_rfl) (by decide) (fun K hK => ?_)
    refine goes_ Try.func49 (by kernel_rfl) rfl #[.agg #[.slice A1_0 l1_0.length c1_0, .int .i64 a1_1, .int .i64 a1_2, .slice A1_3 l1_3.length c1_3, .slice A1_4 l1_4.length c1_4, .slice A1_5 l1_5.length c1_5]] (by rfl) rfl rfl (by (try simp only [List.map_toArray, List.map_cons, List.map_nil]); first | done | rfl | (simp only [List.length_drop, List.length_take]; rfl)) ?_
    with_reducible refine (laws_toProof.calls k _ _ l1_0 a1_1 a1_2 _ _ l1_3 _ _ l1_4 _ _ l1_5 t359 t362 t363 t364 t367 t370 _ ?side1 ?side2 ?side3 ?side4 ?side5 ?side6 ?side7 ?side8 A12.out).mono ?_
    (case side1 => exact Kd.C_mv HR1_0 HB)
    (case side2 => exact HC1_0.out)
    (case side3 => exact Kd.C_mv HR1_3 HB)
    (case side4 => exact HC1_3.out)
    (case side5 => exact Kd.C_mv HR1_4 HB)
    (case side6 => exact HC1_4.out)
    (case side7 => exact Kd.C_mv HR1_5 HB)
    (case side8 => exact HC1_5.out)
    rintro e w23 ⟨v360, v365, v368, v371, rfl, ho0, ho1, ho2, ho3, hb⟩
    refine ⟨_, rfl, ?_⟩
    have n0_ := Aside0.mk (Kd.R_lower ho0 (below_size (by repeat (first | (with_reducible first | exact HB.out | apply below_alloc | apply pw_below_drewN | apply below_drew1 | refine below_set ?_ GE351.out | refine below_set ?_ GE352.out) | exact HB.out))))
    have n1_ := Aside0.mk (Kd.R_lower ho1 (below_size (by repeat (first | (with_reducible first | exact HB.out | apply below_alloc | apply pw_below_drewN | apply below_drew1 | refine below_set ?_ GE351.out | refine below_set ?_ GE352.out) | exact HB.out))))
    have n2_ := Aside0.mk (Kd.R_lower ho2 (below_size (by repeat (first | (with_reducible first | exact HB.out | apply below_alloc | apply pw_below_drewN | apply below_drew1 | refine below_set ?_ GE351.out | refine below_set ?_ GE352.out) | exact HB.out))))
    have n3_ := Aside0.mk (Kd.S_lower ho3 (below_size (by repeat (first | (with_reducible first | exact HB.out | apply below_alloc | apply pw_below_drewN | apply below_drew1 | refine below_set ?_ GE351.out | refine below_set ?_ GE352.out) | exact HB.out))))
    have n4_ := Aside0.mk (blk_below (blk_mv BK351) hb)
    have n5_ := Aside0.mk (blk_below (blk_mv BK352) hb)
    have n6_ := Aside0.mk (below_step (by repeat (first | (with_reducible first | exact HB.out | apply below_alloc | apply pw_below_drewN | apply below_drew1 | refine below_set ?_ GE351.out | refine below_set ?_ GE352.out) | exact HB.out)) hb)
    clear BK351
    clear BK352
    clear HB
    have HO361 := n0_
    have HO366 := n1_
    have HO369 := n2_
    have HO372 := n3_
    have BK351 := n4_
    have BK352 := n5_
    have HB := n6_
    clear n0_ n1_ n2_ n3_ n4_ n5_ n6_
    (try clear hb)
    (try clear hb2)
    (try clear hk)
    (try clear hi)
    (try clear ho0)
    (try clear ho1)
    (try clear ho2)
    (try clear ho3)
    obtain ⟨Ao24, co24, eo24⟩ := Kd.R_slice HO361.out
    (first | subst eo24 | (injection eo24 with f1_ f2_ f3_; have f4_ := f1_.symm; have f5_ := f3_.symm; clear f1_ f2_ f3_; subst f4_; subst f5_))
    obtain ⟨Ao25, co25, eo25⟩ := Kd.R_slice HO366.out
    (first | subst eo25 | (injection eo25 with f1_ f2_ f3_; have f4_ := f1_.symm; have f5_ := f3_.symm; clear f1_ f2_ f3_; subst f4_; subst f5_))
    obtain ⟨Ao26, co26, eo26⟩ := Kd.R_slice HO369.out
    (first | subst eo26 | (injection eo26 with f1_ f2_ f3_; have f4_ := f1_.symm; have f5_ := f3_.symm; clear f1_ f2_ f3_; subst f4_; subst f5_))
    obtain ⟨Ao27, co27, eo27⟩ := Kd.S_slice HO372.out
    (first | subst eo27 | (injection eo27 with f1_ f2_ f3_; have f4_ := f1_.symm; have f5_ := f3_.symm; clear f1_ f2_ f3_; subst f4_; subst f5_))
    refine hK.out _ _ ⟨(blk_cell BK351.out 0).trans rfl, (blk_cell BK351.out 1).trans rfl, (blk_cell BK351.out 2).trans rfl, (blk_cell BK351.out 3).trans rfl, (blk_cell BK351.out 4).trans rfl, (blk_cell BK352.out 0).trans rfl, (blk_cell BK352.out 1).trans rfl, (blk_cell BK352.out 2).trans rfl, (blk_cell BK352.out 3).trans rfl, (blk_cell BK352.out 4).trans rfl, (blk_cell BK352.out 5).trans rfl⟩ (fun hHeld => ?_)
    clear hK K
    refine norm_ (a' := ?_) ?_ ?_
    rotate_left
    ·show Act.put _ (some 17) _ = _
     simp only [Act.put, List.setIfInBounds_toArray, List.set_cons_zero, List.set_cons_succ, i64_w, i32_w]
     rfl
    refine one_ (i := 4) (N := some 18) #[true, true, true, true, true, false] rfl rfl (by kernel_rfl) (by decide) (fun K hK => ?_)
    refine goes_ Try.func60 (by kernel_rfl) rfl #[.agg #[.int .i64 t354, .int .i64 t355, .int .i64 t356, .int .i64 t357, .int .i64 t358], .agg #[.slice Ao24 t359.length co24, .int .i64 t362, .int .i64 t363, .slice Ao25 t364.length co25, .slice Ao26 t367.length co26, .slice Ao27 t370.length co27]] (by rfl) rfl rfl (by (try simp only [List.map_toArray, List.map_cons, List.map_nil]); first | done | rfl | (simp only [List.length_drop, List.length_take]; rfl)) ?_
    with_reducible refine (spec_ProofOk.calls k t354 t355 t356 t357 t358 _ _ t359 t362 t363 _ _ t364 _ _ t367 _ _ t370 t373 _ ?side1 ?side2 ?side3 ?side4 ?side5 ?side6 ?side7 ?side8 A13.out).mono ?_
    (case side1 => repeat (first | exact (Kd.R_reads' HO361.out).2.2 | (with_reducible refine Kd.C_alloc ?_ _) | (with_reducible refine Kd.C_drewN ?_ _) | (with_reducible refine Kd.C_drew ?_)))
    (case side2 => exact (Kd.R_reads' HO361.out).2.1)
    (case side3 => repeat (first | exact (Kd.R_reads' HO366.out).2.2 | (with_reducible refine Kd.C_alloc ?_ _) | (with_reducible refine Kd.C_drewN ?_ _) | (with_reducible refine Kd.C_drew ?_)))
    (case side4 => exact (Kd.R_reads' HO366.out).2.1)
    (case side5 => repeat (first | exact (Kd.R_reads' HO369.out).2.2 | (with_reducible refine Kd.C_alloc ?_ _) | (with_reducible refine Kd.C_drewN ?_ _) | (with_reducible refine Kd.C_drew ?_)))
    (case side6 => exact (Kd.R_reads' HO369.out).2.1)
    (case side7 => repeat (first | exact (Kd.S_reads' HO372.out).2.2 | (with_reducible refine Kd.C_alloc ?_ _) | (with_reducible refine Kd.C_drewN ?_ _) | (with_reducible refine Kd.C_drew ?_)))
    (case side8 => exact (Kd.S_reads' HO372.out).2.1)
    rintro e w28 ⟨rfl, hb⟩
    refine ⟨_, rfl, ?_⟩
    have n0_ := Aside0.mk (Kd.R_below (Kd.R_mv HO361) hb)
    have n1_ := Aside0.mk (Kd.R_below (Kd.R_mv HO366) hb)
    have n2_ := Aside0.mk (Kd.R_below (Kd.R_mv HO369) hb)
    have n3_ := Aside0.mk (Kd.S_below (Kd.S_mv HO372) hb)
    have n4_ := Aside0.mk (blk_below (blk_mv BK351) hb)
    have n5_ := Aside0.mk (blk_below (blk_mv BK352) hb)
    have n6_ := Aside0.mk (below_step (by repeat (first | (with_reducible first | exact HB.out | apply below_alloc | apply pw_below_drewN | apply below_drew1 | refine below_set ?_ GE351.out | refine below_set ?_ GE352.out) | exact HB.out)) hb)
    clear HO361
    clear HO366
    clear HO369
    clear HO372
    clear BK351
    clear BK352
    clear HB
    have HO361 := n0_
    have HO366 := n1_
    have HO369 := n2_
    have HO372 := n3_
    have BK351 := n4_
    have BK352 := n5_
    have HB := n6_
    clear n0_ n1_ n2_ n3_ n4_ n5_ n6_
    (try clear hb)
    (try clear hb2)
    (try clear hk)
    (try clear hi)
    refine hK.out _ _ ⟨(blk_cell BK351.out 0).trans rfl, (blk_cell BK351.out 1).trans rfl, (blk_cell BK351.out 2).trans rfl, (blk_cell BK351.out 3).trans rfl, (blk_cell BK351.out 4).trans rfl, (blk_cell BK352.out 0).trans rfl, (blk_cell BK352.out 1).trans rfl, (blk_cell BK352.out 2).trans rfl, (blk_cell BK352.out 3).trans rfl, (blk_cell BK352.out 4).trans rfl, (blk_cell BK352.out 5).trans rfl⟩ (fun hHeld => ?_)
    clear hK K
    refine norm_ (a' := ?_) ?_ ?_
    rotate_left
    ·show Act.put _ (some 18) _ = _
     simp only [Act.put, List.setIfInBounds_toArray, List.set_cons_zero, List.set_cons_succ, i64_w, i32_w]
     rfl
    refine pure_ (i := 5) (N := some 6) (v := ?_) (a' := ?_) #[true, true, true, true, true, true] rfl rfl (by kernel_rfl) (fun _ _ _ h => h) (Or.inl ⟨by rfl, ?_⟩) ?_ ?_
    rotate_left
    ·intro w'
     go_simp
     with_reducible rfl
    rotate_left
    ·simp only [Act.put, List.setIfInBounds_toArray, List.set_cons_zero, List.set_cons_succ, i64_w, i32_w]
     rfl
    refine done_ (by kernel_rfl) ?_
    have hnb29 := NB352_351.out
    have hnc29 := NB351_352.out
    obtain ⟨hcz30_0, hcz30_1, hcz30_2, hcz30_3, hcz30_4, hcz30_5⟩ := blkA6 BK352.out
    obtain ⟨hfz30_0, hfz30_1, hfz30_2, hfz30_3, hfz30_4, hfz30_5⟩ := blkF6 BK352.out
    try go_wp2_with (first | ((with_reducible refine gate_callee (f := 49) rfl ?_); refine goesL_ (some 20) rfl rfl Try.func49 (by kernel_rfl) rfl #[.agg #[.slice A1_0 l1_0.length c1_0, .int .i64 a1_1, .int .i64 a1_2, .slice A1_3 l1_3.length c1_3, .slice A1_4 l1_4.length c1_4, .slice A1_5 l1_5.length c1_5]] rfl (by (try simp only [List.map_toArray, List.map_cons, List.map_nil]); first | done | rfl | (simp only [List.length_drop, List.length_take]; rfl)) ?_; (with_reducible refine (laws_toProof.calls k _ _ l1_0 a1_1 a1_2 _ _ l1_3 _ _ l1_4 _ _ l1_5 t374 t377 t378 t379 t382 t385 _ ?side1 ?side2 ?side3 ?side4 ?side5 ?side6 ?side7 ?side8 A14.out).mono ?_); (case side1 => exact Kd.C_mv HR1_0 HB); (case side2 => exact HC1_0.out); (case side3 => exact Kd.C_mv HR1_3 HB); (case side4 => exact HC1_3.out); (case side5 => exact Kd.C_mv HR1_4 HB); (case side6 => exact HC1_4.out); (case side7 => exact Kd.C_mv HR1_5 HB); (case side8 => exact HC1_5.out); rintro e w31 ⟨v375, v380, v383, v386, rfl, ho0, ho1, ho2, ho3, hb⟩; refine ⟨_, rfl, ?_⟩; have n0_ := Aside0.mk (Kd.R_below (Kd.R_mv HO361) hb); have n1_ := Aside0.mk (Kd.R_below (Kd.R_mv HO366) hb); have n2_ := Aside0.mk (Kd.R_below (Kd.R_mv HO369) hb); have n3_ := Aside0.mk (Kd.S_below (Kd.S_mv HO372) hb); have n4_ := Aside0.mk (Kd.R_lower ho0 (below_size (by repeat (first | (with_reducible first | exact HB.out | apply below_alloc | apply pw_below_drewN | apply below_drew1 | refine below_set ?_ GE351.out | refine below_set ?_ GE352.out) | exact HB.out)))); have n5_ := Aside0.mk (Kd.R_lower ho1 (below_size (by repeat (first | (with_reducible first | exact HB.out | apply below_alloc | apply pw_below_drewN | apply below_drew1 | refine below_set ?_ GE351.out | refine below_set ?_ GE352.out) | exact HB.out)))); have n6_ := Aside0.mk (Kd.R_lower ho2 (below_size (by repeat (first | (with_reducible first | exact HB.out | apply below_alloc | apply pw_below_drewN | apply below_drew1 | refine below_set ?_ GE351.out | refine below_set ?_ GE352.out) | exact HB.out)))); have n7_ := Aside0.mk (Kd.S_lower ho3 (below_size (by repeat (first | (with_reducible first | exact HB.out | apply below_alloc | apply pw_below_drewN | apply below_drew1 | refine below_set ?_ GE351.out | refine below_set ?_ GE352.out) | exact HB.out)))); have n8_ := Aside0.mk (blk_below (blk_mv BK351) hb); have n9_ := Aside0.mk (blk_below (blk_mv BK352) hb); have n10_ := Aside0.mk (below_step (by repeat (first | (with_reducible first | exact HB.out | apply below_alloc | apply pw_below_drewN | apply below_drew1 | refine below_set ?_ GE351.out | refine below_set ?_ GE352.out) | exact HB.out)) hb); clear HO361; clear HO366; clear HO369; clear HO372; clear BK351; clear BK352; clear HB; have HO361 := n0_; have HO366 := n1_; have HO369 := n2_; have HO372 := n3_; have HO376 := n4_; have HO381 := n5_; have HO384 := n6_; have HO387 := n7_; have BK351 := n8_; have BK352 := n9_; have HB := n10_; clear n0_ n1_ n2_ n3_ n4_ n5_ n6_ n7_ n8_ n9_ n10_; (try clear hb); (try clear hb2); (try clear hk); (try clear hi); (try clear ho0); (try clear ho1); (try clear ho2); (try clear ho3)) | ((with_reducible refine gate_dst (N := 7) rfl ?_); refine box_event ?hg (N := 7) ?hd (cs := #[.slice none 0 0, .int .i64 0, .int .i64 0, .slice none 0 0, .slice none 0 0, .slice none 0 0]) (t := 84) ?hr ?_; (case hd => rfl); (case hg => rfl); (case hr => first | (go_simp; done) | (go_simp; rfl)); intro gb388 hg w32 hbox hb; have n0_ := Aside0.mk (Kd.R_below (Kd.R_mv HO361) hb); have n1_ := Aside0.mk (Kd.R_below (Kd.R_mv HO366) hb); have n2_ := Aside0.mk (Kd.R_below (Kd.R_mv HO369) hb); have n3_ := Aside0.mk (Kd.S_below (Kd.S_mv HO372) hb); have n4_ := Aside0.mk (Kd.R_below (Kd.R_mv HO376) hb); have n5_ := Aside0.mk (Kd.R_below (Kd.R_mv HO381) hb); have n6_ := Aside0.mk (Kd.R_below (Kd.R_mv HO384) hb); have n7_ := Aside0.mk (Kd.S_below (Kd.S_mv HO387) hb); have n8_ := Aside0.mk (blk_below (blk_mv BK351) hb); have n9_ := Aside0.mk (blk_below (blk_mv BK352) hb); have n10_ := Aside0.mk (below_step (by repeat (first | (with_reducible first | exact HB.out | apply below_alloc | apply pw_below_drewN | apply below_drew1 | refine below_set ?_ GE351.out | refine below_set ?_ GE352.out) | exact HB.out)) hb); have n11_ := Aside0.mk (hbox); have n12_ := Aside0.mk ((by rw [hg]; exact (below_size (by repeat (first | (with_reducible first | exact HB.out | apply below_alloc | apply pw_below_drewN | apply below_drew1 | refine below_set ?_ GE351.out | refine below_set ?_ GE352.out) | exact HB.out))) : w.heap.size ≤ gb388)); have n13_ := Aside0.mk ((by rw [hg]; exact (below_size (by repeat (first | (with_reducible first | exact HB.out | apply below_alloc | apply pw_below_drewN | apply below_drew1 | refine below_set ?_ GE351.out | refine below_set ?_ GE352.out) | exact HB.out))) : w.heap.size ≤ gb388)); have n14_ := Aside0.mk ((by rw [hg]; exact Nat.ne_of_lt (blk_lt (blk_mv BK351)) : gb351 ≠ gb388)); have n15_ := Aside0.mk ((by rw [hg]; exact Nat.ne_of_gt (blk_lt (blk_mv BK351)) : gb388 ≠ gb351)); have n16_ := Aside0.mk ((by rw [hg]; exact Nat.ne_of_lt (blk_lt (blk_mv BK352)) : gb352 ≠ gb388)); have n17_ := Aside0.mk ((by rw [hg]; exact Nat.ne_of_gt (blk_lt (blk_mv BK352)) : gb388 ≠ gb352)); clear HO361; clear HO366; clear HO369; clear HO372; clear HO376; clear HO381; clear HO384; clear HO387; clear BK351; clear BK352; clear HB; have HO361 := n0_; have HO366 := n1_; have HO369 := n2_; have HO372 := n3_; have HO376 := n4_; have HO381 := n5_; have HO384 := n6_; have HO387 := n7_; have BK351 := n8_; have BK352 := n9_; have HB := n10_; have BK388 := n11_; have GW388 := n12_; have GE388 := n13_; have NB351_388 := n14_; have NB388_351 := n15_; have NB352_388 := n16_; have NB388_352 := n17_; clear n0_ n1_ n2_ n3_ n4_ n5_ n6_ n7_ n8_ n9_ n10_ n11_ n12_ n13_ n14_ n15_ n16_ n17_; clear hb hbox hg; obtain ⟨Ao33, co33, eo33⟩ := Kd.R_slice HO376.out; subst eo33; have hnb34 := NB388_351.out; have hnc34 := NB351_388.out; have hnb35 := NB388_352.out; have hnc35 := NB352_388.out; obtain ⟨hcz36_0, hcz36_1, hcz36_2, hcz36_3, hcz36_4, hcz36_5⟩ := blkA6 BK388.out; obtain ⟨hfz36_0, hfz36_1, hfz36_2, hfz36_3, hfz36_4, hfz36_5⟩ := blkF6 BK388.out; obtain ⟨Ao37, co37, eo37⟩ := Kd.R_slice HO381.out; subst eo37; obtain ⟨Ao38, co38, eo38⟩ := Kd.R_slice HO384.out; subst eo38; obtain ⟨Ao39, co39, eo39⟩ := Kd.S_slice HO387.out; subst eo39))
    have n0_ : Aside0 (Kd.R k55 55 ((((((w32.setCell ⟨gb388, 0, none⟩ (.slice Ao33 t374.length co33)).setCell ⟨gb388, 1, none⟩ (.int .i64 t377)).setCell ⟨gb388, 2, none⟩ (.int .i64 t378)).setCell ⟨gb388, 3, none⟩ (.slice Ao37 t379.length co37)).setCell ⟨gb388, 4, none⟩ (.slice Ao38 t382.length co38)).setCell ⟨gb388, 5, none⟩ (.slice Ao39 t385.length co39)) w.heap.size (fun _ => True) (.slice Ao24 t359.length co24) t359) := ⟨by (with_reducible repeat (first | apply Kd.R_alloc | apply Kd.R_drewN | apply Kd.R_drew)); exact Kd.R_mono (Kd.R_fars (Kd.R_types HO361.out BK388.out (by decide)) (fun _ hk => hk.2)) (fun _ hk => trivial)⟩
    have n1_ : Aside0 (Kd.R (Kd.int .u8) 5 ((((((w32.setCell ⟨gb388, 0, none⟩ (.slice Ao33 t374.length co33)).setCell ⟨gb388, 1, none⟩ (.int .i64 t377)).setCell ⟨gb388, 2, none⟩ (.int .i64 t378)).setCell ⟨gb388, 3, none⟩ (.slice Ao37 t379.length co37)).setCell ⟨gb388, 4, none⟩ (.slice Ao38 t382.length co38)).setCell ⟨gb388, 5, none⟩ (.slice Ao39 t385.length co39)) w.heap.size (fun _ => True) (.slice Ao25 t364.length co25) t364) := ⟨by (with_reducible repeat (first | apply Kd.R_alloc | apply Kd.R_drewN | apply Kd.R_drew)); exact Kd.R_mono (Kd.R_fars (Kd.R_types HO366.out BK388.out (by decide)) (fun _ hk => hk.2)) (fun _ hk => trivial)⟩
    have n2_ : Aside0 (Kd.R (Kd.int .u8) 5 ((((((w32.setCell ⟨gb388, 0, none⟩ (.slice Ao33 t374.length co33)).setCell ⟨gb388, 1, none⟩ (.int .i64 t377)).setCell ⟨gb388, 2, none⟩ (.int .i64 t378)).setCell ⟨gb388, 3, none⟩ (.slice Ao37 t379.length co37)).setCell ⟨gb388, 4, none⟩ (.slice Ao38 t382.length co38)).setCell ⟨gb388, 5, none⟩ (.slice Ao39 t385.length co39)) w.heap.size (fun _ => True) (.slice Ao26 t367.length co26) t367) := ⟨by (with_reducible repeat (first | apply Kd.R_alloc | apply Kd.R_drewN | apply Kd.R_drew)); exact Kd.R_mono (Kd.R_fars (Kd.R_types HO369.out BK388.out (by decide)) (fun _ hk => hk.2)) (fun _ hk => trivial)⟩
    have n3_ : Aside0 (Kd.S (Kd.slice 5 (Kd.int .u8)) 37 ((((((w32.setCell ⟨gb388, 0, none⟩ (.slice Ao33 t374.length co33)).setCell ⟨gb388, 1, none⟩ (.int .i64 t377)).setCell ⟨gb388, 2, none⟩ (.int .i64 t378)).setCell ⟨gb388, 3, none⟩ (.slice Ao37 t379.length co37)).setCell ⟨gb388, 4, none⟩ (.slice Ao38 t382.length co38)).setCell ⟨gb388, 5, none⟩ (.slice Ao39 t385.length co39)) w.heap.size (fun _ => True) (.slice Ao27 t370.length co27) t370) := ⟨by (with_reducible repeat (first | apply Kd.S_alloc | apply Kd.S_drewN | apply Kd.S_drew)); exact Kd.S_mono (Kd.S_fars (Kd.S_types HO372.out BK388.out (by decide)) (fun _ hk => hk.2)) (fun _ hk => trivial)⟩
    have n4_ : Aside0 (Kd.R k55 55 ((((((w32.setCell ⟨gb388, 0, none⟩ (.slice Ao33 t374.length co33)).setCell ⟨gb388, 1, none⟩ (.int .i64 t377)).setCell ⟨gb388, 2, none⟩ (.int .i64 t378)).setCell ⟨gb388, 3, none⟩ (.slice Ao37 t379.length co37)).setCell ⟨gb388, 4, none⟩ (.slice Ao38 t382.length co38)).setCell ⟨gb388, 5, none⟩ (.slice Ao39 t385.length co39)) w.heap.size (fun _ => True) (.slice Ao33 t374.length co33) t374) := ⟨by (with_reducible repeat (first | apply Kd.R_alloc | apply Kd.R_drewN | apply Kd.R_drew)); exact Kd.R_mono (Kd.R_fars (Kd.R_types HO376.out BK388.out (by decide)) (fun _ hk => hk.2)) (fun _ hk => trivial)⟩
    have n5_ : Aside0 (Kd.R (Kd.int .u8) 5 ((((((w32.setCell ⟨gb388, 0, none⟩ (.slice Ao33 t374.length co33)).setCell ⟨gb388, 1, none⟩ (.int .i64 t377)).setCell ⟨gb388, 2, none⟩ (.int .i64 t378)).setCell ⟨gb388, 3, none⟩ (.slice Ao37 t379.length co37)).setCell ⟨gb388, 4, none⟩ (.slice Ao38 t382.length co38)).setCell ⟨gb388, 5, none⟩ (.slice Ao39 t385.length co39)) w.heap.size (fun _ => True) (.slice Ao37 t379.length co37) t379) := ⟨by (with_reducible repeat (first | apply Kd.R_alloc | apply Kd.R_drewN | apply Kd.R_drew)); exact Kd.R_mono (Kd.R_fars (Kd.R_types HO381.out BK388.out (by decide)) (fun _ hk => hk.2)) (fun _ hk => trivial)⟩
    have n6_ : Aside0 (Kd.R (Kd.int .u8) 5 ((((((w32.setCell ⟨gb388, 0, none⟩ (.slice Ao33 t374.length co33)).setCell ⟨gb388, 1, none⟩ (.int .i64 t377)).setCell ⟨gb388, 2, none⟩ (.int .i64 t378)).setCell ⟨gb388, 3, none⟩ (.slice Ao37 t379.length co37)).setCell ⟨gb388, 4, none⟩ (.slice Ao38 t382.length co38)).setCell ⟨gb388, 5, none⟩ (.slice Ao39 t385.length co39)) w.heap.size (fun _ => True) (.slice Ao38 t382.length co38) t382) := ⟨by (with_reducible repeat (first | apply Kd.R_alloc | apply Kd.R_drewN | apply Kd.R_drew)); exact Kd.R_mono (Kd.R_fars (Kd.R_types HO384.out BK388.out (by decide)) (fun _ hk => hk.2)) (fun _ hk => trivial)⟩
    have n7_ : Aside0 (Kd.S (Kd.slice 5 (Kd.int .u8)) 37 ((((((w32.setCell ⟨gb388, 0, none⟩ (.slice Ao33 t374.length co33)).setCell ⟨gb388, 1, none⟩ (.int .i64 t377)).setCell ⟨gb388, 2, none⟩ (.int .i64 t378)).setCell ⟨gb388, 3, none⟩ (.slice Ao37 t379.length co37)).setCell ⟨gb388, 4, none⟩ (.slice Ao38 t382.length co38)).setCell ⟨gb388, 5, none⟩ (.slice Ao39 t385.length co39)) w.heap.size (fun _ => True) (.slice Ao39 t385.length co39) t385) := ⟨by (with_reducible repeat (first | apply Kd.S_alloc | apply Kd.S_drewN | apply Kd.S_drew)); exact Kd.S_mono (Kd.S_fars (Kd.S_types HO387.out BK388.out (by decide)) (fun _ hk => hk.2)) (fun _ hk => trivial)⟩
    have n8_ : Aside0 (((((((w32.setCell ⟨gb388, 0, none⟩ (.slice Ao33 t374.length co33)).setCell ⟨gb388, 1, none⟩ (.int .i64 t377)).setCell ⟨gb388, 2, none⟩ (.int .i64 t378)).setCell ⟨gb388, 3, none⟩ (.slice Ao37 t379.length co37)).setCell ⟨gb388, 4, none⟩ (.slice Ao38 t382.length co38)).setCell ⟨gb388, 5, none⟩ (.slice Ao39 t385.length co39)).heap[gb351]? = some (.cells #[.int .i64 a0_0, .int .i64 a0_1, .int .i64 a0_2, .int .i64 a0_3, .int .i64 a0_4] 23 (0, 0))) := ⟨by refine blk_peel ?_; refine blk_far ?_ NB351_388.out _; refine blk_peel ?_; refine blk_far ?_ NB351_388.out _; refine blk_peel ?_; refine blk_far ?_ NB351_388.out _; refine blk_peel ?_; refine blk_far ?_ NB351_388.out _; refine blk_peel ?_; refine blk_far ?_ NB351_388.out _; refine blk_peel ?_; refine blk_far ?_ NB351_388.out _; refine blk_peel ?_; exact BK351.out⟩
    have n9_ : Aside0 (((((((w32.setCell ⟨gb388, 0, none⟩ (.slice Ao33 t374.length co33)).setCell ⟨gb388, 1, none⟩ (.int .i64 t377)).setCell ⟨gb388, 2, none⟩ (.int .i64 t378)).setCell ⟨gb388, 3, none⟩ (.slice Ao37 t379.length co37)).setCell ⟨gb388, 4, none⟩ (.slice Ao38 t382.length co38)).setCell ⟨gb388, 5, none⟩ (.slice Ao39 t385.length co39)).heap[gb352]? = some (.cells #[.slice A1_0 l1_0.length c1_0, .int .i64 a1_1, .int .i64 a1_2, .slice A1_3 l1_3.length c1_3, .slice A1_4 l1_4.length c1_4, .slice A1_5 l1_5.length c1_5] 79 (0, 0))) := ⟨by refine blk_peel ?_; refine blk_far ?_ NB352_388.out _; refine blk_peel ?_; refine blk_far ?_ NB352_388.out _; refine blk_peel ?_; refine blk_far ?_ NB352_388.out _; refine blk_peel ?_; refine blk_far ?_ NB352_388.out _; refine blk_peel ?_; refine blk_far ?_ NB352_388.out _; refine blk_peel ?_; refine blk_far ?_ NB352_388.out _; refine blk_peel ?_; exact BK352.out⟩
    have n10_ : Aside0 (((((((w32.setCell ⟨gb388, 0, none⟩ (.slice Ao33 t374.length co33)).setCell ⟨gb388, 1, none⟩ (.int .i64 t377)).setCell ⟨gb388, 2, none⟩ (.int .i64 t378)).setCell ⟨gb388, 3, none⟩ (.slice Ao37 t379.length co37)).setCell ⟨gb388, 4, none⟩ (.slice Ao38 t382.length co38)).setCell ⟨gb388, 5, none⟩ (.slice Ao39 t385.length co39)).heap[gb388]? = some (.cells #[.slice Ao33 t374.length co33, .int .i64 t377, .int .i64 t378, .slice Ao37 t379.length co37, .slice Ao38 t382.length co38, .slice Ao39 t385.length co39] 84 (0, 0))) := ⟨by refine blk_peel ?_; refine blk_put (cs := #[.slice Ao33 t374.length co33, .int .i64 t377, .int .i64 t378, .slice Ao37 t379.length co37, .slice Ao38 t382.length co38, .slice none 0 0]) ?_ 5 _ rfl; refine blk_peel ?_; refine blk_put (cs := #[.slice Ao33 t374.length co33, .int .i64 t377, .int .i64 t378, .slice Ao37 t379.length co37, .slice none 0 0, .slice none 0 0]) ?_ 4 _ rfl; refine blk_peel ?_; refine blk_put (cs := #[.slice Ao33 t374.length co33, .int .i64 t377, .int .i64 t378, .slice none 0 0, .slice none 0 0, .slice none 0 0]) ?_ 3 _ rfl; refine blk_peel ?_; refine blk_put (cs := #[.slice Ao33 t374.length co33, .int .i64 t377, .int .i64 0, .slice none 0 0, .slice none 0 0, .slice none 0 0]) ?_ 2 _ rfl; refine blk_peel ?_; refine blk_put (cs := #[.slice Ao33 t374.length co33, .int .i64 0, .int .i64 0, .slice none 0 0, .slice none 0 0, .slice none 0 0]) ?_ 1 _ rfl; refine blk_peel ?_; refine blk_put (cs := #[.slice none 0 0, .int .i64 0, .int .i64 0, .slice none 0 0, .slice none 0 0, .slice none 0 0]) ?_ 0 _ rfl; refine blk_peel ?_; exact BK388.out⟩
    have n11_ : Aside0 (Below w.heap.size w ((((((w32.setCell ⟨gb388, 0, none⟩ (.slice Ao33 t374.length co33)).setCell ⟨gb388, 1, none⟩ (.int .i64 t377)).setCell ⟨gb388, 2, none⟩ (.int .i64 t378)).setCell ⟨gb388, 3, none⟩ (.slice Ao37 t379.length co37)).setCell ⟨gb388, 4, none⟩ (.slice Ao38 t382.length co38)).setCell ⟨gb388, 5, none⟩ (.slice Ao39 t385.length co39))) := ⟨by repeat (first | (with_reducible first | exact HB.out | apply below_alloc | apply pw_below_drewN | apply below_drew1 | refine below_set ?_ GE351.out | refine below_set ?_ GE352.out | refine below_set ?_ GE388.out) | exact HB.out)⟩
    (try clear HO361)
    (try clear HO366)
    (try clear HO369)
    (try clear HO372)
    (try clear HO376)
    (try clear HO381)
    (try clear HO384)
    (try clear HO387)
    (try clear BK351)
    (try clear BK352)
    (try clear BK388)
    (try clear HB)
    generalize ((((((w32.setCell ⟨gb388, 0, none⟩ (.slice Ao33 t374.length co33)).setCell ⟨gb388, 1, none⟩ (.int .i64 t377)).setCell ⟨gb388, 2, none⟩ (.int .i64 t378)).setCell ⟨gb388, 3, none⟩ (.slice Ao37 t379.length co37)).setCell ⟨gb388, 4, none⟩ (.slice Ao38 t382.length co38)).setCell ⟨gb388, 5, none⟩ (.slice Ao39 t385.length co39)) = w40 at n0_ n1_ n2_ n3_ n4_ n5_ n6_ n7_ n8_ n9_ n10_ n11_ ⊢
    have HO361 := n0_
    have HO366 := n1_
    have HO369 := n2_
    have HO372 := n3_
    have HO376 := n4_
    have HO381 := n5_
    have HO384 := n6_
    have HO387 := n7_
    have BK351 := n8_
    have BK352 := n9_
    have BK388 := n10_
    have HB := n11_
    clear n0_ n1_ n2_ n3_ n4_ n5_ n6_ n7_ n8_ n9_ n10_ n11_
    have n0_ := Aside0.mk (Kd.R_drew HO361.out)
    have n1_ := Aside0.mk (Kd.R_drew HO366.out)
    have n2_ := Aside0.mk (Kd.R_drew HO369.out)
    have n3_ := Aside0.mk (Kd.S_drew HO372.out)
    have n4_ := Aside0.mk (Kd.R_drew HO376.out)
    have n5_ := Aside0.mk (Kd.R_drew HO381.out)
    have n6_ := Aside0.mk (Kd.R_drew HO384.out)
    have n7_ := Aside0.mk (Kd.S_drew HO387.out)
    have n8_ := Aside0.mk (blk_drew BK351.out)
    have n9_ := Aside0.mk (blk_drew BK352.out)
    have n10_ := Aside0.mk (blk_drew BK388.out)
    have n11_ := Aside0.mk (below_drew1 HB.out)
    clear HO361
    clear HO366
    clear HO369
    clear HO372
    clear HO376
    clear HO381
    clear HO384
    clear HO387
    clear BK351
    clear BK352
    clear BK388
    clear HB
    have HO361 := n0_
    have HO366 := n1_
    have HO369 := n2_
    have HO372 := n3_
    have HO376 := n4_
    have HO381 := n5_
    have HO384 := n6_
    have HO387 := n7_
    have BK351 := n8_
    have BK352 := n9_
    have BK388 := n10_
    have HB := n11_
    clear n0_ n1_ n2_ n3_ n4_ n5_ n6_ n7_ n8_ n9_ n10_ n11_
    refine start_ (n := 5) (S := fun w' => w'.cell? ⟨gb351, 0, none⟩ = some (.int .i64 a0_0) ∧ w'.cell? ⟨gb351, 1, none⟩ = some (.int .i64 a0_1) ∧ w'.cell? ⟨gb351, 2, none⟩ = some (.int .i64 a0_2) ∧ w'.cell? ⟨gb351, 3, none⟩ = some (.int .i64 a0_3) ∧ w'.cell? ⟨gb351, 4, none⟩ = some (.int .i64 a0_4) ∧ w'.cell? ⟨gb388, 0, none⟩ = some (.slice Ao33 t374.length co33) ∧ w'.cell? ⟨gb388, 1, none⟩ = some (.int .i64 t377) ∧ w'.cell? ⟨gb388, 2, none⟩ = some (.int .i64 t378) ∧ w'.cell? ⟨gb388, 3, none⟩ = some (.slice Ao37 t379.length co37) ∧ w'.cell? ⟨gb388, 4, none⟩ = some (.slice Ao38 t382.length co38) ∧ w'.cell? ⟨gb388, 5, none⟩ = some (.slice Ao39 t385.length co39)) (ds := []) #[false, false, false, false, false] (by kernel_rfl) rfl rfl ⟨(blk_cell BK351.out 0).trans rfl, (blk_cell BK351.out 1).trans rfl, (blk_cell BK351.out 2).trans rfl, (blk_cell BK351.out 3).trans rfl, (blk_cell BK351.out 4).trans rfl, (blk_cell BK388.out 0).trans rfl, (blk_cell BK388.out 1).trans rfl, (blk_cell BK388.out 2).trans rfl, (blk_cell BK388.out 3).trans rfl, (blk_cell BK388.out 4).trans rfl, (blk_cell BK388.out 5).trans rfl⟩ (fun hHeld => ?_)
    generalize w40.drew = w41 at HO361 HO366 HO369 HO372 HO376 HO381 HO384 HO387 BK351 BK352 BK388 HB hHeld ⊢
    refine take_ (i := 0) (N := some 21) (v := ?_) (a' := ?_) #[true, false, false, false, false] rfl rfl (by kernel_rfl) (fun _ _ _ h => h) (Or.inl ⟨by rfl, ?_⟩) hHeld ?_ ?_
    rotate_left
    ·rintro w' ⟨s0, s1, s2, s3, s4, s5, s6, s7, s8, s9, s10⟩
     go_simp
     with_reducible rfl
    rotate_left
    ·simp only [Act.put, List.setIfInBounds_toArray, List.set_cons_zero, List.set_cons_succ, i64_w, i32_w]
     rfl
    refine take_ (i := 2) (N := some 23) (v := ?_) (a' := ?_) #[true, false, true, false, false] rfl rfl (by kernel_rfl) (fun _ _ _ h => h) (Or.inl ⟨by rfl, ?_⟩) hHeld ?_ ?_
    rotate_left
    ·rintro w' ⟨s0, s1, s2, s3, s4, s5, s6, s7, s8, s9, s10⟩
     go_simp
     with_reducible rfl
    rotate_left
    ·simp only [Act.put, List.setIfInBounds_toArray, List.set_cons_zero, List.set_cons_succ, i64_w, i32_w]
     rfl
    refine one_ (i := 1) (N := some 22) #[true, true, true, false, false] rfl rfl (by kernel_rfl) (by decide) (fun K hK => ?_)
    refine goes_ Try.func17 (by kernel_rfl) rfl #[.agg #[.int .i64 a0_0, .int .i64 a0_1, .int .i64 a0_2, .int .i64 a0_3, .int .i64 a0_4]] (by rfl) rfl rfl (by (try simp only [List.map_toArray, List.map_cons, List.map_nil]); first | done | rfl | (simp only [List.length_drop, List.length_take]; rfl)) ?_
    with_reducible refine (laws_toLimits.calls a0_0 a0_1 a0_2 a0_3 a0_4 t389 t390 t391 t392 t393 _ A15.out).mono ?_
    rintro e w42 ⟨rfl, hb⟩
    refine ⟨_, rfl, ?_⟩
    have n0_ := Aside0.mk (Kd.R_below (Kd.R_mv HO361) hb)
    have n1_ := Aside0.mk (Kd.R_below (Kd.R_mv HO366) hb)
    have n2_ := Aside0.mk (Kd.R_below (Kd.R_mv HO369) hb)
    have n3_ := Aside0.mk (Kd.S_below (Kd.S_mv HO372) hb)
    have n4_ := Aside0.mk (Kd.R_below (Kd.R_mv HO376) hb)
    have n5_ := Aside0.mk (Kd.R_below (Kd.R_mv HO381) hb)
    have n6_ := Aside0.mk (Kd.R_below (Kd.R_mv HO384) hb)
    have n7_ := Aside0.mk (Kd.S_below (Kd.S_mv HO387) hb)
    have n8_ := Aside0.mk (blk_below (blk_mv BK351) hb)
    have n9_ := Aside0.mk (blk_below (blk_mv BK352) hb)
    have n10_ := Aside0.mk (blk_below (blk_mv BK388) hb)
    have n11_ := Aside0.mk (below_step (by repeat (first | (with_reducible first | exact HB.out | apply below_alloc | apply pw_below_drewN | apply below_drew1 | refine below_set ?_ GE351.out | refine below_set ?_ GE352.out | refine below_set ?_ GE388.out) | exact HB.out)) hb)
    clear HO361
    clear HO366
    clear HO369
    clear HO372
    clear HO376
    clear HO381
    clear HO384
    clear HO387
    clear BK351
    clear BK352
    clear BK388
    clear HB
    have HO361 := n0_
    have HO366 := n1_
    have HO369 := n2_
    have HO372 := n3_
    have HO376 := n4_
    have HO381 := n5_
    have HO384 := n6_
    have HO387 := n7_
    have BK351 := n8_
    have BK352 := n9_
    have BK388 := n10_
    have HB := n11_
    clear n0_ n1_ n2_ n3_ n4_ n5_ n6_ n7_ n8_ n9_ n10_ n11_
    (try clear hb)
    (try clear hb2)
    (try clear hk)
    (try clear hi)
    refine hK.out _ _ ⟨(blk_cell BK351.out 0).trans rfl, (blk_cell BK351.out 1).trans rfl, (blk_cell BK351.out 2).trans rfl, (blk_cell BK351.out 3).trans rfl, (blk_cell BK351.out 4).trans rfl, (blk_cell BK388.out 0).trans rfl, (blk_cell BK388.out 1).trans rfl, (blk_cell BK388.out 2).trans rfl, (blk_cell BK388.out 3).trans rfl, (blk_cell BK388.out 4).trans rfl, (blk_cell BK388.out 5).trans rfl⟩ (fun hHeld => ?_)
    clear hK K
    refine norm_ (a' := ?_) ?_ ?_
    rotate_left
    ·show Act.put _ (some 22) _ = _
     simp only [Act.put, List.setIfInBounds_toArray, List.set_cons_zero, List.set_cons_succ, i64_w, i32_w]
     rfl
    refine one_ (i := 3) (N := some 24) #[true, true, true, true, false] rfl rfl (by kernel_rfl) (by decide) (fun K hK => ?_)
    refine goes_ Try.func61 (by kernel_rfl) rfl #[.agg #[.int .i64 t389, .int .i64 t390, .int .i64 t391, .int .i64 t392, .int .i64 t393], .agg #[.slice Ao33 t374.length co33, .int .i64 t377, .int .i64 t378, .slice Ao37 t379.length co37, .slice Ao38 t382.length co38, .slice Ao39 t385.length co39]] (by rfl) rfl rfl (by (try simp only [List.map_toArray, List.map_cons, List.map_nil]); first | done | rfl | (simp only [List.length_drop, List.length_take]; rfl)) ?_
    with_reducible refine (impl_ProofOk.calls k t389 t390 t391 t392 t393 _ _ t374 t377 t378 _ _ t379 _ _ t382 _ _ t385 t394 _ ?side1 ?side2 ?side3 ?side4 ?side5 ?side6 ?side7 ?side8 A16.out).mono ?_
    (case side1 => repeat (first | exact (Kd.R_reads' HO376.out).2.2 | (with_reducible refine Kd.C_alloc ?_ _) | (with_reducible refine Kd.C_drewN ?_ _) | (with_reducible refine Kd.C_drew ?_)))
    (case side2 => exact (Kd.R_reads' HO376.out).2.1)
    (case side3 => repeat (first | exact (Kd.R_reads' HO381.out).2.2 | (with_reducible refine Kd.C_alloc ?_ _) | (with_reducible refine Kd.C_drewN ?_ _) | (with_reducible refine Kd.C_drew ?_)))
    (case side4 => exact (Kd.R_reads' HO381.out).2.1)
    (case side5 => repeat (first | exact (Kd.R_reads' HO384.out).2.2 | (with_reducible refine Kd.C_alloc ?_ _) | (with_reducible refine Kd.C_drewN ?_ _) | (with_reducible refine Kd.C_drew ?_)))
    (case side6 => exact (Kd.R_reads' HO384.out).2.1)
    (case side7 => repeat (first | exact (Kd.S_reads' HO387.out).2.2 | (with_reducible refine Kd.C_alloc ?_ _) | (with_reducible refine Kd.C_drewN ?_ _) | (with_reducible refine Kd.C_drew ?_)))
    (case side8 => exact (Kd.S_reads' HO387.out).2.1)
    rintro e w43 ⟨rfl, hb⟩
    refine ⟨_, rfl, ?_⟩
    have n0_ := Aside0.mk (Kd.R_below (Kd.R_mv HO361) hb)
    have n1_ := Aside0.mk (Kd.R_below (Kd.R_mv HO366) hb)
    have n2_ := Aside0.mk (Kd.R_below (Kd.R_mv HO369) hb)
    have n3_ := Aside0.mk (Kd.S_below (Kd.S_mv HO372) hb)
    have n4_ := Aside0.mk (Kd.R_below (Kd.R_mv HO376) hb)
    have n5_ := Aside0.mk (Kd.R_below (Kd.R_mv HO381) hb)
    have n6_ := Aside0.mk (Kd.R_below (Kd.R_mv HO384) hb)
    have n7_ := Aside0.mk (Kd.S_below (Kd.S_mv HO387) hb)
    have n8_ := Aside0.mk (blk_below (blk_mv BK351) hb)
    have n9_ := Aside0.mk (blk_below (blk_mv BK352) hb)
    have n10_ := Aside0.mk (blk_below (blk_mv BK388) hb)
    have n11_ := Aside0.mk (below_step (by repeat (first | (with_reducible first | exact HB.out | apply below_alloc | apply pw_below_drewN | apply below_drew1 | refine below_set ?_ GE351.out | refine below_set ?_ GE352.out | refine below_set ?_ GE388.out) | exact HB.out)) hb)
    clear HO361
    clear HO366
    clear HO369
    clear HO372
    clear HO376
    clear HO381
    clear HO384
    clear HO387
    clear BK351
    clear BK352
    clear BK388
    clear HB
    have HO361 := n0_
    have HO366 := n1_
    have HO369 := n2_
    have HO372 := n3_
    have HO376 := n4_
    have HO381 := n5_
    have HO384 := n6_
    have HO387 := n7_
    have BK351 := n8_
    have BK352 := n9_
    have BK388 := n10_
    have HB := n11_
    clear n0_ n1_ n2_ n3_ n4_ n5_ n6_ n7_ n8_ n9_ n10_ n11_
    (try clear hb)
    (try clear hb2)
    (try clear hk)
    (try clear hi)
    refine hK.out _ _ ⟨(blk_cell BK351.out 0).trans rfl, (blk_cell BK351.out 1).trans rfl, (blk_cell BK351.out 2).trans rfl, (blk_cell BK351.out 3).trans rfl, (blk_cell BK351.out 4).trans rfl, (blk_cell BK388.out 0).trans rfl, (blk_cell BK388.out 1).trans rfl, (blk_cell BK388.out 2).trans rfl, (blk_cell BK388.out 3).trans rfl, (blk_cell BK388.out 4).trans rfl, (blk_cell BK388.out 5).trans rfl⟩ (fun hHeld => ?_)
    clear hK K
    refine norm_ (a' := ?_) ?_ ?_
    rotate_left
    ·show Act.put _ (some 24) _ = _
     simp only [Act.put, List.setIfInBounds_toArray, List.set_cons_zero, List.set_cons_succ, i64_w, i32_w]
     rfl
    refine pure_ (i := 4) (N := some 8) (v := ?_) (a' := ?_) #[true, true, true, true, true] rfl rfl (by kernel_rfl) (fun _ _ _ h => h) (Or.inl ⟨by rfl, ?_⟩) ?_ ?_
    rotate_left
    ·intro w'
     go_simp
     with_reducible rfl
    rotate_left
    ·simp only [Act.put, List.setIfInBounds_toArray, List.set_cons_zero, List.set_cons_succ, i64_w, i32_w]
     rfl
    refine done_ (by kernel_rfl) ?_
    try go_wp2
    have n0_ := Aside0.mk (Kd.R_drew HO361.out)
    have n1_ := Aside0.mk (Kd.R_drew HO366.out)
    have n2_ := Aside0.mk (Kd.R_drew HO369.out)
    have n3_ := Aside0.mk (Kd.S_drew HO372.out)
    have n4_ := Aside0.mk (Kd.R_drew HO376.out)
    have n5_ := Aside0.mk (Kd.R_drew HO381.out)
    have n6_ := Aside0.mk (Kd.R_drew HO384.out)
    have n7_ := Aside0.mk (Kd.S_drew HO387.out)
    have n8_ := Aside0.mk (blk_drew BK351.out)
    have n9_ := Aside0.mk (blk_drew BK352.out)
    have n10_ := Aside0.mk (blk_drew BK388.out)
    have n11_ := Aside0.mk (below_drew1 HB.out)
    clear HO361
    clear HO366
    clear HO369
    clear HO372
    clear HO376
    clear HO381
    clear HO384
    clear HO387
    clear BK351
    clear BK352
    clear BK388
    clear HB
    have HO361 := n0_
    have HO366 := n1_
    have HO369 := n2_
    have HO372 := n3_
    have HO376 := n4_
    have HO381 := n5_
    have HO384 := n6_
    have HO387 := n7_
    have BK351 := n8_
    have BK352 := n9_
    have BK388 := n10_
    have HB := n11_
    clear n0_ n1_ n2_ n3_ n4_ n5_ n6_ n7_ n8_ n9_ n10_ n11_
    refine start_ (n := 5) (S := fun w' => w'.cell? ⟨gb388, 0, none⟩ = some (.slice Ao33 t374.length co33) ∧ w'.cell? ⟨gb388, 1, none⟩ = some (.int .i64 t377) ∧ w'.cell? ⟨gb388, 2, none⟩ = some (.int .i64 t378) ∧ w'.cell? ⟨gb388, 3, none⟩ = some (.slice Ao37 t379.length co37) ∧ w'.cell? ⟨gb388, 4, none⟩ = some (.slice Ao38 t382.length co38) ∧ w'.cell? ⟨gb388, 5, none⟩ = some (.slice Ao39 t385.length co39) ∧ w'.cell? ⟨gb352, 0, none⟩ = some (.slice A1_0 l1_0.length c1_0) ∧ w'.cell? ⟨gb352, 1, none⟩ = some (.int .i64 a1_1) ∧ w'.cell? ⟨gb352, 2, none⟩ = some (.int .i64 a1_2) ∧ w'.cell? ⟨gb352, 3, none⟩ = some (.slice A1_3 l1_3.length c1_3) ∧ w'.cell? ⟨gb352, 4, none⟩ = some (.slice A1_4 l1_4.length c1_4) ∧ w'.cell? ⟨gb352, 5, none⟩ = some (.slice A1_5 l1_5.length c1_5)) (ds := []) #[false, false, false, false, false] (by kernel_rfl) rfl rfl ⟨(blk_cell BK388.out 0).trans rfl, (blk_cell BK388.out 1).trans rfl, (blk_cell BK388.out 2).trans rfl, (blk_cell BK388.out 3).trans rfl, (blk_cell BK388.out 4).trans rfl, (blk_cell BK388.out 5).trans rfl, (blk_cell BK352.out 0).trans rfl, (blk_cell BK352.out 1).trans rfl, (blk_cell BK352.out 2).trans rfl, (blk_cell BK352.out 3).trans rfl, (blk_cell BK352.out 4).trans rfl, (blk_cell BK352.out 5).trans rfl⟩ (fun hHeld => ?_)
    generalize w43.drew = w44 at HO361 HO366 HO369 HO372 HO376 HO381 HO384 HO387 BK351 BK352 BK388 HB hHeld ⊢
    refine take_ (i := 0) (N := some 28) (v := ?_) (a' := ?_) #[true, false, false, false, false] rfl rfl (by kernel_rfl) (fun _ _ _ h => h) (Or.inl ⟨by rfl, ?_⟩) hHeld ?_ ?_
    rotate_left
    ·rintro w' ⟨s0, s1, s2, s3, s4, s5, s6, s7, s8, s9, s10, s11⟩
     go_simp
     with_reducible rfl
    rotate_left
    ·simp only [Act.put, List.setIfInBounds_toArray, List.set_cons_zero, List.set_cons_succ, i64_w, i32_w]
     rfl
    refine take_ (i := 1) (N := some 29) (v := ?_) (a' := ?_) #[true, true, false, false, false] rfl rfl (by kernel_rfl) (fun _ _ _ h => h) (Or.inl ⟨by rfl, ?_⟩) hHeld ?_ ?_
    rotate_left
    ·rintro w' ⟨s0, s1, s2, s3, s4, s5, s6, s7, s8, s9, s10, s11⟩
     go_simp
     with_reducible rfl
    rotate_left
    ·simp only [Act.put, List.setIfInBounds_toArray, List.set_cons_zero, List.set_cons_succ, i64_w, i32_w]
     rfl
    refine one_ (i := 2) (N := some 30) #[true, true, true, false, false] rfl rfl (by kernel_rfl) (by decide) (fun K hK => ?_)
    refine goes_ Try.func49 (by kernel_rfl) rfl #[.agg #[.slice A1_0 l1_0.length c1_0, .int .i64 a1_1, .int .i64 a1_2, .slice A1_3 l1_3.length c1_3, .slice A1_4 l1_4.length c1_4, .slice A1_5 l1_5.length c1_5]] (by rfl) rfl rfl (by (try simp only [List.map_toArray, List.map_cons, List.map_nil]); first | done | rfl | (simp only [List.length_drop, List.length_take]; rfl)) ?_
    with_reducible refine (laws_toProof.calls k _ _ l1_0 a1_1 a1_2 _ _ l1_3 _ _ l1_4 _ _ l1_5 t395 t398 t399 t400 t403 t406 _ ?side1 ?side2 ?side3 ?side4 ?side5 ?side6 ?side7 ?side8 A18.out).mono ?_
    (case side1 => exact Kd.C_mv HR1_0 HB)
    (case side2 => exact HC1_0.out)
    (case side3 => exact Kd.C_mv HR1_3 HB)
    (case side4 => exact HC1_3.out)
    (case side5 => exact Kd.C_mv HR1_4 HB)
    (case side6 => exact HC1_4.out)
    (case side7 => exact Kd.C_mv HR1_5 HB)
    (case side8 => exact HC1_5.out)
    rintro e w45 ⟨v396, v401, v404, v407, rfl, ho0, ho1, ho2, ho3, hb⟩
    refine ⟨_, rfl, ?_⟩
    have n0_ := Aside0.mk (Kd.R_below (Kd.R_mv HO361) hb)
    have n1_ := Aside0.mk (Kd.R_below (Kd.R_mv HO366) hb)
    have n2_ := Aside0.mk (Kd.R_below (Kd.R_mv HO369) hb)
    have n3_ := Aside0.mk (Kd.S_below (Kd.S_mv HO372) hb)
    have n4_ := Aside0.mk (Kd.R_below (Kd.R_mv HO376) hb)
    have n5_ := Aside0.mk (Kd.R_below (Kd.R_mv HO381) hb)
    have n6_ := Aside0.mk (Kd.R_below (Kd.R_mv HO384) hb)
    have n7_ := Aside0.mk (Kd.S_below (Kd.S_mv HO387) hb)
    have n8_ := Aside0.mk (Kd.R_lower ho0 (below_size (by repeat (first | (with_reducible first | exact HB.out | apply below_alloc | apply pw_below_drewN | apply below_drew1 | refine below_set ?_ GE351.out | refine below_set ?_ GE352.out | refine below_set ?_ GE388.out) | exact HB.out))))
    have n9_ := Aside0.mk (Kd.R_lower ho1 (below_size (by repeat (first | (with_reducible first | exact HB.out | apply below_alloc | apply pw_below_drewN | apply below_drew1 | refine below_set ?_ GE351.out | refine below_set ?_ GE352.out | refine below_set ?_ GE388.out) | exact HB.out))))
    have n10_ := Aside0.mk (Kd.R_lower ho2 (below_size (by repeat (first | (with_reducible first | exact HB.out | apply below_alloc | apply pw_below_drewN | apply below_drew1 | refine below_set ?_ GE351.out | refine below_set ?_ GE352.out | refine below_set ?_ GE388.out) | exact HB.out))))
    have n11_ := Aside0.mk (Kd.S_lower ho3 (below_size (by repeat (first | (with_reducible first | exact HB.out | apply below_alloc | apply pw_below_drewN | apply below_drew1 | refine below_set ?_ GE351.out | refine below_set ?_ GE352.out | refine below_set ?_ GE388.out) | exact HB.out))))
    have n12_ := Aside0.mk (blk_below (blk_mv BK351) hb)
    have n13_ := Aside0.mk (blk_below (blk_mv BK352) hb)
    have n14_ := Aside0.mk (blk_below (blk_mv BK388) hb)
    have n15_ := Aside0.mk (below_step (by repeat (first | (with_reducible first | exact HB.out | apply below_alloc | apply pw_below_drewN | apply below_drew1 | refine below_set ?_ GE351.out | refine below_set ?_ GE352.out | refine below_set ?_ GE388.out) | exact HB.out)) hb)
    clear HO361
    clear HO366
    clear HO369
    clear HO372
    clear HO376
    clear HO381
    clear HO384
    clear HO387
    clear BK351
    clear BK352
    clear BK388
    clear HB
    have HO361 := n0_
    have HO366 := n1_
    have HO369 := n2_
    have HO372 := n3_
    have HO376 := n4_
    have HO381 := n5_
    have HO384 := n6_
    have HO387 := n7_
    have HO397 := n8_
    have HO402 := n9_
    have HO405 := n10_
    have HO408 := n11_
    have BK351 := n12_
    have BK352 := n13_
    have BK388 := n14_
    have HB := n15_
    clear n0_ n1_ n2_ n3_ n4_ n5_ n6_ n7_ n8_ n9_ n10_ n11_ n12_ n13_ n14_ n15_
    (try clear hb)
    (try clear hb2)
    (try clear hk)
    (try clear hi)
    (try clear ho0)
    (try clear ho1)
    (try clear ho2)
    (try clear ho3)
    obtain ⟨Ao46, co46, eo46⟩ := Kd.R_slice HO397.out
    (first | subst eo46 | (injection eo46 with f1_ f2_ f3_; have f4_ := f1_.symm; have f5_ := f3_.symm; clear f1_ f2_ f3_; subst f4_; subst f5_))
    obtain ⟨Ao47, co47, eo47⟩ := Kd.R_slice HO402.out
    (first | subst eo47 | (injection eo47 with f1_ f2_ f3_; have f4_ := f1_.symm; have f5_ := f3_.symm; clear f1_ f2_ f3_; subst f4_; subst f5_))
    obtain ⟨Ao48, co48, eo48⟩ := Kd.R_slice HO405.out
    (first | subst eo48 | (injection eo48 with f1_ f2_ f3_; have f4_ := f1_.symm; have f5_ := f3_.symm; clear f1_ f2_ f3_; subst f4_; subst f5_))
    obtain ⟨Ao49, co49, eo49⟩ := Kd.S_slice HO408.out
    (first | subst eo49 | (injection eo49 with f1_ f2_ f3_; have f4_ := f1_.symm; have f5_ := f3_.symm; clear f1_ f2_ f3_; subst f4_; subst f5_))
    refine hK.out _ _ ⟨(blk_cell BK388.out 0).trans rfl, (blk_cell BK388.out 1).trans rfl, (blk_cell BK388.out 2).trans rfl, (blk_cell BK388.out 3).trans rfl, (blk_cell BK388.out 4).trans rfl, (blk_cell BK388.out 5).trans rfl, (blk_cell BK352.out 0).trans rfl, (blk_cell BK352.out 1).trans rfl, (blk_cell BK352.out 2).trans rfl, (blk_cell BK352.out 3).trans rfl, (blk_cell BK352.out 4).trans rfl, (blk_cell BK352.out 5).trans rfl⟩ (fun hHeld => ?_)
    clear hK K
    refine norm_ (a' := ?_) ?_ ?_
    rotate_left
    ·show Act.put _ (some 30) _ = _
     simp only [Act.put, List.setIfInBounds_toArray, List.set_cons_zero, List.set_cons_succ, i64_w, i32_w]
     rfl
    refine one_ (i := 3) (N := some 31) #[true, true, true, true, false] rfl rfl (by kernel_rfl) (by decide) (fun K hK => ?_)
    refine goes_ Try.func51 (by kernel_rfl) rfl #[.agg #[.slice Ao33 t374.length co33, .int .i64 t377, .int .i64 t378, .slice Ao37 t379.length co37, .slice Ao38 t382.length co38, .slice Ao39 t385.length co39], .agg #[.slice Ao46 t395.length co46, .int .i64 t398, .int .i64 t399, .slice Ao47 t400.length co47, .slice Ao48 t403.length co48, .slice Ao49 t406.length co49]] (by rfl) rfl rfl (by (try simp only [List.map_toArray, List.map_cons, List.map_nil]); first | done | rfl | (simp only [List.length_drop, List.length_take]; rfl)) ?_
    with_reducible refine (laws_eqProof.calls k _ _ t374 t377 t378 _ _ t379 _ _ t382 _ _ t385 _ _ t395 t398 t399 _ _ t400 _ _ t403 _ _ t406 true _ ?side1 ?side2 ?side3 ?side4 ?side5 ?side6 ?side7 ?side8 ?side9 ?side10 ?side11 ?side12 ?side13 ?side14 ?side15 ?side16 A19.out).mono ?_
    (case side1 => repeat (first | exact (Kd.R_reads' HO376.out).2.2 | (with_reducible refine Kd.C_alloc ?_ _) | (with_reducible refine Kd.C_drewN ?_ _) | (with_reducible refine Kd.C_drew ?_)))
    (case side2 => exact (Kd.R_reads' HO376.out).2.1)
    (case side3 => repeat (first | exact (Kd.R_reads' HO381.out).2.2 | (with_reducible refine Kd.C_alloc ?_ _) | (with_reducible refine Kd.C_drewN ?_ _) | (with_reducible refine Kd.C_drew ?_)))
    (case side4 => exact (Kd.R_reads' HO381.out).2.1)
    (case side5 => repeat (first | exact (Kd.R_reads' HO384.out).2.2 | (with_reducible refine Kd.C_alloc ?_ _) | (with_reducible refine Kd.C_drewN ?_ _) | (with_reducible refine Kd.C_drew ?_)))
    (case side6 => exact (Kd.R_reads' HO384.out).2.1)
    (case side7 => repeat (first | exact (Kd.S_reads' HO387.out).2.2 | (with_reducible refine Kd.C_alloc ?_ _) | (with_reducible refine Kd.C_drewN ?_ _) | (with_reducible refine Kd.C_drew ?_)))
    (case side8 => exact (Kd.S_reads' HO387.out).2.1)
    (case side9 => repeat (first | exact (Kd.R_reads' HO397.out).2.2 | (with_reducible refine Kd.C_alloc ?_ _) | (with_reducible refine Kd.C_drewN ?_ _) | (with_reducible refine Kd.C_drew ?_)))
    (case side10 => exact (Kd.R_reads' HO397.out).2.1)
    (case side11 => repeat (first | exact (Kd.R_reads' HO402.out).2.2 | (with_reducible refine Kd.C_alloc ?_ _) | (with_reducible refine Kd.C_drewN ?_ _) | (with_reducible refine Kd.C_drew ?_)))
    (case side12 => exact (Kd.R_reads' HO402.out).2.1)
    (case side13 => repeat (first | exact (Kd.R_reads' HO405.out).2.2 | (with_reducible refine Kd.C_alloc ?_ _) | (with_reducible refine Kd.C_drewN ?_ _) | (with_reducible refine Kd.C_drew ?_)))
    (case side14 => exact (Kd.R_reads' HO405.out).2.1)
    (case side15 => repeat (first | exact (Kd.S_reads' HO408.out).2.2 | (with_reducible refine Kd.C_alloc ?_ _) | (with_reducible refine Kd.C_drewN ?_ _) | (with_reducible refine Kd.C_drew ?_)))
    (case side16 => exact (Kd.S_reads' HO408.out).2.1)
    rintro e w50 ⟨rfl, hb⟩
    refine ⟨_, rfl, ?_⟩
    have n0_ := Aside0.mk (Kd.R_below (Kd.R_mv HO361) hb)
    have n1_ := Aside0.mk (Kd.R_below (Kd.R_mv HO366) hb)
    have n2_ := Aside0.mk (Kd.R_below (Kd.R_mv HO369) hb)
    have n3_ := Aside0.mk (Kd.S_below (Kd.S_mv HO372) hb)
    have n4_ := Aside0.mk (Kd.R_below (Kd.R_mv HO376) hb)
    have n5_ := Aside0.mk (Kd.R_below (Kd.R_mv HO381) hb)
    have n6_ := Aside0.mk (Kd.R_below (Kd.R_mv HO384) hb)
    have n7_ := Aside0.mk (Kd.S_below (Kd.S_mv HO387) hb)
    have n8_ := Aside0.mk (Kd.R_below (Kd.R_mv HO397) hb)
    have n9_ := Aside0.mk (Kd.R_below (Kd.R_mv HO402) hb)
    have n10_ := Aside0.mk (Kd.R_below (Kd.R_mv HO405) hb)
    have n11_ := Aside0.mk (Kd.S_below (Kd.S_mv HO408) hb)
    have n12_ := Aside0.mk (blk_below (blk_mv BK351) hb)
    have n13_ := Aside0.mk (blk_below (blk_mv BK352) hb)
    have n14_ := Aside0.mk (blk_below (blk_mv BK388) hb)
    have n15_ := Aside0.mk (below_step (by repeat (first | (with_reducible first | exact HB.out | apply below_alloc | apply pw_below_drewN | apply below_drew1 | refine below_set ?_ GE351.out | refine below_set ?_ GE352.out | refine below_set ?_ GE388.out) | exact HB.out)) hb)
    clear HO361
    clear HO366
    clear HO369
    clear HO372
    clear HO376
    clear HO381
    clear HO384
    clear HO387
    clear HO397
    clear HO402
    clear HO405
    clear HO408
    clear BK351
    clear BK352
    clear BK388
    clear HB
    have HO361 := n0_
    have HO366 := n1_
    have HO369 := n2_
    have HO372 := n3_
    have HO376 := n4_
    have HO381 := n5_
    have HO384 := n6_
    have HO387 := n7_
    have HO397 := n8_
    have HO402 := n9_
    have HO405 := n10_
    have HO408 := n11_
    have BK351 := n12_
    have BK352 := n13_
    have BK388 := n14_
    have HB := n15_
    clear n0_ n1_ n2_ n3_ n4_ n5_ n6_ n7_ n8_ n9_ n10_ n11_ n12_ n13_ n14_ n15_
    (try clear hb)
    (try clear hb2)
    (try clear hk)
    (try clear hi)
    refine hK.out _ _ ⟨(blk_cell BK388.out 0).trans rfl, (blk_cell BK388.out 1).trans rfl, (blk_cell BK388.out 2).trans rfl, (blk_cell BK388.out 3).trans rfl, (blk_cell BK388.out 4).trans rfl, (blk_cell BK388.out 5).trans rfl, (blk_cell BK352.out 0).trans rfl, (blk_cell BK352.out 1).trans rfl, (blk_cell BK352.out 2).trans rfl, (blk_cell BK352.out 3).trans rfl, (blk_cell BK352.out 4).trans rfl, (blk_cell BK352.out 5).trans rfl⟩ (fun hHeld => ?_)
    clear hK K
    refine norm_ (a' := ?_) ?_ ?_
    rotate_left
    ·show Act.put _ (some 31) _ = _
     simp only [Act.put, List.setIfInBounds_toArray, List.set_cons_zero, List.set_cons_succ, i64_w, i32_w]
     rfl
    refine pure_ (i := 4) (N := some 32) (v := ?_) (a' := ?_) #[true, true, true, true, true] rfl rfl (by kernel_rfl) (fun _ _ _ h => h) (Or.inl ⟨by rfl, ?_⟩) ?_ ?_
    rotate_left
    ·intro w'
     go_simp
     with_reducible rfl
    rotate_left
    ·simp only [Act.put, List.setIfInBounds_toArray, List.set_cons_zero, List.set_cons_succ, i64_w, i32_w]
     rfl
    refine done_ (by kernel_rfl) ?_
    try go_wp2
    go_ret
    exact ⟨by first | rfl | (simp [errW_none, errW_some] <;> rfl) | (simp [*, errW_none, errW_some] <;> rfl), by repeat (first | (with_reducible first | exact HB.out | apply below_alloc | apply pw_below_drewN | apply below_drew1 | refine below_set ?_ GE351.out | refine below_set ?_ GE352.out | refine below_set ?_ GE388.out) | exact HB.out)⟩
   ·replace c20 := Bool.eq_false_iff.mpr c20
    subst c20
    have H1 : (none) = some r := by rw [if_neg (show ¬ (false = true) by decide)] at H; exact H
    clear H
    have H := H1
    clear H1
    exact absurd H (by simp)

end Go.Proofs.Ytniapflmmigbjaa.PFnExactProofOk
