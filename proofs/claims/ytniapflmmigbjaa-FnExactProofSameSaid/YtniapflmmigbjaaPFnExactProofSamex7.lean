-- by a program of this session (wip/gen), out of the translation. Not trusted: Lean checks it.
import Derived.Test.YtniapflmmigbjaaPFnExactProofSamex0
import Derived.Test.YtniapflmmigbjaaPFnExactProofSamex1
import Derived.Test.YtniapflmmigbjaaPFnExactProofSamex3
import Derived.Test.YtniapflmmigbjaaPFnExactProofSamex4
import Derived.Test.YtniapflmmigbjaaPFnExactProofSamex5
import Derived.Test.YtniapflmmigbjaaPFnExactProofSamex6
namespace Go.Proofs.Ytniapflmmigbjaa.PFnExactProofSame
open Go.RowKit Go.Proofs.YtniapflmmigbjaaW.PrintWords Go.Proofs.YtniapflmmigbjaaW.PrintLast Go.Proofs.YtniapflmmigbjaaW.PrintMore
attribute [local go_sem] max2_int min2_int max_two min_two max_three min_three max_four min_four   -- for this text's walks alone
set_option linter.unusedVariables false
set_option linter.unusedSimpArgs false

/-! ### laws_FnExactProofSame: function 9 -/
def laws_FnExactProofSame.f (k : Nat) (l0_0 : List (S50)) (a0_1 : Int) (a0_2 : Int) (l0_3 : List Int) (l0_4 : List Int) (l0_5 : List (List Int)) (l1_0 : List (S50)) (a1_1 : Int) (a1_2 : Int) (l1_3 : List Int) (l1_4 : List Int) (l1_5 : List (List Int)) : Option (Bool) := (laws_szProof.f k l0_0 a0_1 a0_2 l0_3 l0_4 l0_5 1048576).bind fun t266 => (if t266 < 0 then (some true) else ((laws_szProof.f k l1_0 a1_1 a1_2 l1_3 l1_4 l1_5 t266).bind fun t267 => (if t267 < 0 then (some true) else ((laws_toProof.f k l0_0 a0_1 a0_2 l0_3 l0_4 l0_5).bind fun bt268 => ((laws_toProof.f k l1_0 a1_1 a1_2 l1_3 l1_4 l1_5).bind fun bt282 => ((spec_ProofSame.f k bt268.1 bt268.2.1 bt268.2.2.1 bt268.2.2.2.1 bt268.2.2.2.2.1 bt268.2.2.2.2.2 bt282.1 bt282.2.1 bt282.2.2.1 bt282.2.2.2.1 bt282.2.2.2.2.1 bt282.2.2.2.2.2).bind fun t296 => ((laws_toProof.f k l0_0 a0_1 a0_2 l0_3 l0_4 l0_5).bind fun bt297 => ((laws_toProof.f k l1_0 a1_1 a1_2 l1_3 l1_4 l1_5).bind fun bt312 => ((impl_ProofSame.f k bt297.1 bt297.2.1 bt297.2.2.1 bt297.2.2.2.1 bt297.2.2.2.2.1 bt297.2.2.2.2.2 bt312.1 bt312.2.1 bt312.2.2.1 bt312.2.2.2.1 bt312.2.2.2.2.1 bt312.2.2.2.2.2).bind fun t327 => (if (t327 != t296) = true then (none) else ((laws_toProof.f k l0_0 a0_1 a0_2 l0_3 l0_4 l0_5).bind fun bt328 => ((laws_eqProof.f k bt297.1 bt297.2.1 bt297.2.2.1 bt297.2.2.2.1 bt297.2.2.2.2.1 bt297.2.2.2.2.2 bt328.1 bt328.2.1 bt328.2.2.1 bt328.2.2.2.1 bt328.2.2.2.2.1 bt328.2.2.2.2.2).bind fun t342 => (if t342 = true then ((laws_toProof.f k l1_0 a1_1 a1_2 l1_3 l1_4 l1_5).bind fun bt343 => ((laws_eqProof.f k bt312.1 bt312.2.1 bt312.2.2.1 bt312.2.2.2.1 bt312.2.2.2.2.1 bt312.2.2.2.2.2 bt343.1 bt343.2.1 bt343.2.2.1 bt343.2.2.2.1 bt343.2.2.2.2.1 bt343.2.2.2.2.2).bind fun t357 => (if t357 = true then (some true) else (none)))) else (none))))))))))))))
theorem laws_FnExactProofSame.mono : ∀ a0 a1 a2 a3 a4 a5 a6 a7 a8 a9 a10 a11 k, LeO (laws_FnExactProofSame.f k a0 a1 a2 a3 a4 a5 a6 a7 a8 a9 a10 a11) (laws_FnExactProofSame.f (k + 1) a0 a1 a2 a3 a4 a5 a6 a7 a8 a9 a10 a11) := by
 intro a0 a1 a2 a3 a4 a5 a6 a7 a8 a9 a10 a11 k
 unfold laws_FnExactProofSame.f
 repeat' first
   | (with_reducible exact impl_ProofSame.mono _ _ _ _ _ _ _ _ _ _ _ _ _)
   | (with_reducible exact laws_eqProof.mono _ _ _ _ _ _ _ _ _ _ _ _ _)
   | (with_reducible exact laws_szProof.mono _ _ _ _ _ _ _ _)
   | (with_reducible exact laws_toProof.mono _ _ _ _ _ _ _)
   | (with_reducible exact spec_ProofSame.mono _ _ _ _ _ _ _ _ _ _ _ _ _)
   | (with_reducible exact LeO.refl _)
   | (with_reducible exact LeO.none _)
   | (with_reducible refine LeO.ite ?_ ?_)
   | (with_reducible refine LeO.bind ?_ (fun _ => ?_))
   | exact impl_ProofSame.mono _ _ _ _ _ _ _ _ _ _ _ _ _
   | exact laws_eqProof.mono _ _ _ _ _ _ _ _ _ _ _ _ _
   | exact laws_szProof.mono _ _ _ _ _ _ _ _
   | exact laws_toProof.mono _ _ _ _ _ _ _
   | exact spec_ProofSame.mono _ _ _ _ _ _ _ _ _ _ _ _ _
   | exact LeO.none _
   | refine LeO.ite ?_ ?_
   | refine LeO.bind ?_ (fun _ => ?_)
set_option maxHeartbeats 8000000 in
set_option maxRecDepth 100000 in
theorem laws_FnExactProofSame.calls (k : Nat) (A0_0 : Option Addr) (c0_0 : Nat) (l0_0 : List (S50)) (a0_1 : Int) (a0_2 : Int) (A0_3 : Option Addr) (c0_3 : Nat) (l0_3 : List Int) (A0_4 : Option Addr) (c0_4 : Nat) (l0_4 : List Int) (A0_5 : Option Addr) (c0_5 : Nat) (l0_5 : List (List Int)) (A1_0 : Option Addr) (c1_0 : Nat) (l1_0 : List (S50)) (a1_1 : Int) (a1_2 : Int) (A1_3 : Option Addr) (c1_3 : Nat) (l1_3 : List Int) (A1_4 : Option Addr) (c1_4 : Nat) (l1_4 : List Int) (A1_5 : Option Addr) (c1_5 : Nat) (l1_5 : List (List Int)) (r : Bool) (w : World) (hr0_0 : Kd.C k50 w A0_0 l0_0.length l0_0) (hc0_0 : l0_0.length ≤ c0_0) (hr0_3 : Kd.C (Kd.int .u8) w A0_3 l0_3.length l0_3) (hc0_3 : l0_3.length ≤ c0_3) (hr0_4 : Kd.C (Kd.int .u8) w A0_4 l0_4.length l0_4) (hc0_4 : l0_4.length ≤ c0_4) (hr0_5 : Kd.C (Kd.slice 5 (Kd.int .u8)) w A0_5 l0_5.length l0_5) (hc0_5 : l0_5.length ≤ c0_5) (hr1_0 : Kd.C k50 w A1_0 l1_0.length l1_0) (hc1_0 : l1_0.length ≤ c1_0) (hr1_3 : Kd.C (Kd.int .u8) w A1_3 l1_3.length l1_3) (hc1_3 : l1_3.length ≤ c1_3) (hr1_4 : Kd.C (Kd.int .u8) w A1_4 l1_4.length l1_4) (hc1_4 : l1_4.length ≤ c1_4) (hr1_5 : Kd.C (Kd.slice 5 (Kd.int .u8)) w A1_5 l1_5.length l1_5) (hc1_5 : l1_5.length ≤ c1_5) (h : laws_FnExactProofSame.f k l0_0 a0_1 a0_2 l0_3 l0_4 l0_5 l1_0 a1_1 a1_2 l1_3 l1_4 l1_5 = some r) :
  Calls Try.prog 9 #[.agg #[.slice A0_0 l0_0.length c0_0, .int .i64 a0_1, .int .i64 a0_2, .slice A0_3 l0_3.length c0_3, .slice A0_4 l0_4.length c0_4, .slice A0_5 l0_5.length c0_5], .agg #[.slice A1_0 l1_0.length c1_0, .int .i64 a1_1, .int .i64 a1_2, .slice A1_3 l1_3.length c1_3, .slice A1_4 l1_4.length c1_4, .slice A1_5 l1_5.length c1_5]] w fun e w' => e = .returned (.bool r) ∧ Below w.heap.size w w' := by
 have hu79 := Try.underlying79
 have hu84 := Try.underlying84
 have HR0_0 := Aside0.mk hr0_0
 have HC0_0 := Aside0.mk hc0_0
 clear hr0_0 hc0_0
 have HR0_3 := Aside0.mk hr0_3
 have HC0_3 := Aside0.mk hc0_3
 clear hr0_3 hc0_3
 have HR0_4 := Aside0.mk hr0_4
 have HC0_4 := Aside0.mk hc0_4
 clear hr0_4 hc0_4
 have HR0_5 := Aside0.mk hr0_5
 have HC0_5 := Aside0.mk hc0_5
 clear hr0_5 hc0_5
 have HR1_0 := Aside0.mk hr1_0
 have HC1_0 := Aside0.mk hc1_0
 clear hr1_0 hc1_0
 have HR1_3 := Aside0.mk hr1_3
 have HC1_3 := Aside0.mk hc1_3
 clear hr1_3 hc1_3
 have HR1_4 := Aside0.mk hr1_4
 have HC1_4 := Aside0.mk hc1_4
 clear hr1_4 hc1_4
 have HR1_5 := Aside0.mk hr1_5
 have HC1_5 := Aside0.mk hc1_5
 clear hr1_5 hc1_5
 have HB := Aside0.mk (Below.refl w.heap.size w)
 have H : ((laws_szProof.f k l0_0 a0_1 a0_2 l0_3 l0_4 l0_5 1048576).bind fun t266 => (if t266 < 0 then (some true) else ((laws_szProof.f k l1_0 a1_1 a1_2 l1_3 l1_4 l1_5 t266).bind fun t267 => (if t267 < 0 then (some true) else ((laws_toProof.f k l0_0 a0_1 a0_2 l0_3 l0_4 l0_5).bind fun bt268 => ((laws_toProof.f k l1_0 a1_1 a1_2 l1_3 l1_4 l1_5).bind fun bt282 => ((spec_ProofSame.f k bt268.1 bt268.2.1 bt268.2.2.1 bt268.2.2.2.1 bt268.2.2.2.2.1 bt268.2.2.2.2.2 bt282.1 bt282.2.1 bt282.2.2.1 bt282.2.2.2.1 bt282.2.2.2.2.1 bt282.2.2.2.2.2).bind fun t296 => ((laws_toProof.f k l0_0 a0_1 a0_2 l0_3 l0_4 l0_5).bind fun bt297 => ((laws_toProof.f k l1_0 a1_1 a1_2 l1_3 l1_4 l1_5).bind fun bt312 => ((impl_ProofSame.f k bt297.1 bt297.2.1 bt297.2.2.1 bt297.2.2.2.1 bt297.2.2.2.2.1 bt297.2.2.2.2.2 bt312.1 bt312.2.1 bt312.2.2.1 bt312.2.2.2.1 bt312.2.2.2.2.1 bt312.2.2.2.2.2).bind fun t327 => (if (t327 != t296) = true then (none) else ((laws_toProof.f k l0_0 a0_1 a0_2 l0_3 l0_4 l0_5).bind fun bt328 => ((laws_eqProof.f k bt297.1 bt297.2.1 bt297.2.2.1 bt297.2.2.2.1 bt297.2.2.2.2.1 bt297.2.2.2.2.2 bt328.1 bt328.2.1 bt328.2.2.1 bt328.2.2.2.1 bt328.2.2.2.2.1 bt328.2.2.2.2.2).bind fun t342 => (if t342 = true then ((laws_toProof.f k l1_0 a1_1 a1_2 l1_3 l1_4 l1_5).bind fun bt343 => ((laws_eqProof.f k bt312.1 bt312.2.1 bt312.2.2.1 bt312.2.2.2.1 bt312.2.2.2.2.1 bt312.2.2.2.2.2 bt343.1 bt343.2.1 bt343.2.2.1 bt343.2.2.2.1 bt343.2.2.2.2.1 bt343.2.2.2.2.2).bind fun t357 => (if t357 = true then (some true) else (none)))) else (none))))))))))))))) = some r := h
 clear h
 replace H := Option.bind_eq_some_iff.mp H
 obtain ⟨t266, A30, H⟩ := H
 replace H : (if t266 < 0 then (some true) else ((laws_szProof.f k l1_0 a1_1 a1_2 l1_3 l1_4 l1_5 t266).bind fun t267 => (if t267 < 0 then (some true) else ((laws_toProof.f k l0_0 a0_1 a0_2 l0_3 l0_4 l0_5).bind fun bt268 => ((laws_toProof.f k l1_0 a1_1 a1_2 l1_3 l1_4 l1_5).bind fun bt282 => ((spec_ProofSame.f k bt268.1 bt268.2.1 bt268.2.2.1 bt268.2.2.2.1 bt268.2.2.2.2.1 bt268.2.2.2.2.2 bt282.1 bt282.2.1 bt282.2.2.1 bt282.2.2.2.1 bt282.2.2.2.2.1 bt282.2.2.2.2.2).bind fun t296 => ((laws_toProof.f k l0_0 a0_1 a0_2 l0_3 l0_4 l0_5).bind fun bt297 => ((laws_toProof.f k l1_0 a1_1 a1_2 l1_3 l1_4 l1_5).bind fun bt312 => ((impl_ProofSame.f k bt297.1 bt297.2.1 bt297.2.2.1 bt297.2.2.2.1 bt297.2.2.2.2.1 bt297.2.2.2.2.2 bt312.1 bt312.2.1 bt312.2.2.1 bt312.2.2.2.1 bt312.2.2.2.2.1 bt312.2.2.2.2.2).bind fun t327 => (if (t327 != t296) = true then (none) else ((laws_toProof.f k l0_0 a0_1 a0_2 l0_3 l0_4 l0_5).bind fun bt328 => ((laws_eqProof.f k bt297.1 bt297.2.1 bt297.2.2.1 bt297.2.2.2.1 bt297.2.2.2.2.1 bt297.2.2.2.2.2 bt328.1 bt328.2.1 bt328.2.2.1 bt328.2.2.2.1 bt328.2.2.2.2.1 bt328.2.2.2.2.2).bind fun t342 => (if t342 = true then ((laws_toProof.f k l1_0 a1_1 a1_2 l1_3 l1_4 l1_5).bind fun bt343 => ((laws_eqProof.f k bt312.1 bt312.2.1 bt312.2.2.1 bt312.2.2.2.1 bt312.2.2.2.2.1 bt312.2.2.2.2.2 bt343.1 bt343.2.1 bt343.2.2.1 bt343.2.2.2.1 bt343.2.2.2.2.1 bt343.2.2.2.2.2).bind fun t357 => (if t357 = true then (some true) else (none)))) else (none)))))))))))))) = some r := H
 have A3 := Aside0.mk A30
 clear A30
 have HC4 := Aside0.mk H
 clear H
 go_enter Try.func9, Try.ntmps9
 go_upto_if 14 with (first | ((with_reducible refine gate_dst (N := 2) rfl ?_); refine box_event ?hg (N := 2) ?hd (cs := #[.slice A0_0 l0_0.length c0_0, .int .i64 a0_1, .int .i64 a0_2, .slice A0_3 l0_3.length c0_3, .slice A0_4 l0_4.length c0_4, .slice A0_5 l0_5.length c0_5]) (t := 79) ?hr ?_; (case hd => rfl); (case hg => rfl); (case hr => first | (go_simp; done) | (go_simp; rfl)); intro gb264 hg w5 hbox hb; have n0_ := Aside0.mk (below_step (by repeat (first | (with_reducible first | exact HB.out | apply below_alloc | apply pw_below_drewN | apply below_drew1) | exact HB.out)) hb); have n1_ := Aside0.mk (hbox); have n2_ := Aside0.mk ((by rw [hg]; exact (below_size (by repeat (first | (with_reducible first | exact HB.out | apply below_alloc | apply pw_below_drewN | apply below_drew1) | exact HB.out))) : w.heap.size ≤ gb264)); have n3_ := Aside0.mk ((by rw [hg]; exact (below_size (by repeat (first | (with_reducible first | exact HB.out | apply below_alloc | apply pw_below_drewN | apply below_drew1) | exact HB.out))) : w.heap.size ≤ gb264)); clear HB; have HB := n0_; have BK264 := n1_; have GW264 := n2_; have GE264 := n3_; clear n0_ n1_ n2_ n3_; clear hb hbox hg) | ((with_reducible refine gate_dst (N := 3) rfl ?_); refine box_event ?hg (N := 3) ?hd (cs := #[.slice A1_0 l1_0.length c1_0, .int .i64 a1_1, .int .i64 a1_2, .slice A1_3 l1_3.length c1_3, .slice A1_4 l1_4.length c1_4, .slice A1_5 l1_5.length c1_5]) (t := 79) ?hr ?_; (case hd => rfl); (case hg => rfl); (case hr => first | (go_simp; done) | (go_simp; rfl)); intro gb265 hg w6 hbox hb; have n0_ := Aside0.mk (blk_below (g := gb264) (o := .cells #[.slice A0_0 l0_0.length c0_0, .int .i64 a0_1, .int .i64 a0_2, .slice A0_3 l0_3.length c0_3, .slice A0_4 l0_4.length c0_4, .slice A0_5 l0_5.length c0_5] 79 (0, 0)) (blk_mv BK264) hb); have n1_ := Aside0.mk (below_step (by repeat (first | (with_reducible first | exact HB.out | apply below_alloc | apply pw_below_drewN | apply below_drew1 | refine below_set ?_ GE264.out) | exact HB.out)) hb); have n2_ := Aside0.mk (hbox); have n3_ := Aside0.mk ((by rw [hg]; exact (below_size (by repeat (first | (with_reducible first | exact HB.out | apply below_alloc | apply pw_below_drewN | apply below_drew1 | refine below_set ?_ GE264.out) | exact HB.out))) : w.heap.size ≤ gb265)); have n4_ := Aside0.mk ((by rw [hg]; exact (below_size (by repeat (first | (with_reducible first | exact HB.out | apply below_alloc | apply pw_below_drewN | apply below_drew1 | refine below_set ?_ GE264.out) | exact HB.out))) : w.heap.size ≤ gb265)); have n5_ := Aside0.mk ((by rw [hg]; exact Nat.ne_of_lt (blk_lt (g := gb264) (o := .cells #[.slice A0_0 l0_0.length c0_0, .int .i64 a0_1, .int .i64 a0_2, .slice A0_3 l0_3.length c0_3, .slice A0_4 l0_4.length c0_4, .slice A0_5 l0_5.length c0_5] 79 (0, 0)) (blk_mv BK264)) : gb264 ≠ gb265)); have n6_ := Aside0.mk ((by rw [hg]; exact Nat.ne_of_gt (blk_lt (g := gb264) (o := .cells #[.slice A0_0 l0_0.length c0_0, .int .i64 a0_1, .int .i64 a0_2, .slice A0_3 l0_3.length c0_3, .slice A0_4 l0_4.length c0_4, .slice A0_5 l0_5.length c0_5] 79 (0, 0)) (blk_mv BK264)) : gb265 ≠ gb264)); clear BK264; clear HB; have BK264 := n0_; have HB := n1_; have BK265 := n2_; have GW265 := n3_; have GE265 := n4_; have NB264_265 := n5_; have NB265_264 := n6_; clear n0_ n1_ n2_ n3_ n4_ n5_ n6_; clear hb hbox hg; have hnb7 := NB264_265.out; have hnc7 := NB265_264.out; have hcz8_0 : w6.cell? ⟨gb264, 0, none⟩ = some (.slice A0_0 l0_0.length c0_0) := (blk_cell BK264.out 0).trans rfl; have hcz8_1 : w6.cell? ⟨gb264, 1, none⟩ = some (.int .i64 a0_1) := (blk_cell BK264.out 1).trans rfl; have hcz8_2 : w6.cell? ⟨gb264, 2, none⟩ = some (.int .i64 a0_2) := (blk_cell BK264.out 2).trans rfl; have hcz8_3 : w6.cell? ⟨gb264, 3, none⟩ = some (.slice A0_3 l0_3.length c0_3) := (blk_cell BK264.out 3).trans rfl; have hcz8_4 : w6.cell? ⟨gb264, 4, none⟩ = some (.slice A0_4 l0_4.length c0_4) := (blk_cell BK264.out 4).trans rfl; have hcz8_5 : w6.cell? ⟨gb264, 5, none⟩ = some (.slice A0_5 l0_5.length c0_5) := (blk_cell BK264.out 5).trans rfl; have hfz8_0 := blk_frozen BK264.out 0; have hfz8_1 := blk_frozen BK264.out 1; have hfz8_2 := blk_frozen BK264.out 2; have hfz8_3 := blk_frozen BK264.out 3; have hfz8_4 := blk_frozen BK264.out 4; have hfz8_5 := blk_frozen BK264.out 5) | ((with_reducible refine gate_callee (f := 47) rfl ?_); refine goesL_ (some 12) rfl rfl Try.func47 (by kernel_rfl) rfl #[.agg #[.slice A0_0 l0_0.length c0_0, .int .i64 a0_1, .int .i64 a0_2, .slice A0_3 l0_3.length c0_3, .slice A0_4 l0_4.length c0_4, .slice A0_5 l0_5.length c0_5], .int .i64 1048576] rfl (by (try simp only [List.map_toArray, List.map_cons, List.map_nil]); first | done | rfl | (simp only [List.length_drop, List.length_take]; rfl)) ?_; (with_reducible refine (laws_szProof.calls k _ _ l0_0 a0_1 a0_2 _ _ l0_3 _ _ l0_4 _ _ l0_5 1048576 t266 _ ?side1 ?side2 ?side3 ?side4 ?side5 ?side6 ?side7 ?side8 A3.out).mono ?_); (case side1 => repeat (first | exact (Kd.C_below HR0_0.out HB.out) | (with_reducible refine Kd.C_alloc ?_ _) | (with_reducible refine Kd.C_drewN ?_ _) | (with_reducible refine Kd.C_drew ?_))); (case side2 => exact HC0_0.out); (case side3 => repeat (first | exact (Kd.C_below HR0_3.out HB.out) | (with_reducible refine Kd.C_alloc ?_ _) | (with_reducible refine Kd.C_drewN ?_ _) | (with_reducible refine Kd.C_drew ?_))); (case side4 => exact HC0_3.out); (case side5 => repeat (first | exact (Kd.C_below HR0_4.out HB.out) | (with_reducible refine Kd.C_alloc ?_ _) | (with_reducible refine Kd.C_drewN ?_ _) | (with_reducible refine Kd.C_drew ?_))); (case side6 => exact HC0_4.out); (case side7 => repeat (first | exact (Kd.C_below HR0_5.out HB.out) | (with_reducible refine Kd.C_alloc ?_ _) | (with_reducible refine Kd.C_drewN ?_ _) | (with_reducible refine Kd.C_drew ?_))); (case side8 => exact HC0_5.out); rintro e w9 ⟨rfl, hb⟩; refine ⟨_, rfl, ?_⟩; have n0_ := Aside0.mk (blk_below (g := gb264) (o := .cells #[.slice A0_0 l0_0.length c0_0, .int .i64 a0_1, .int .i64 a0_2, .slice A0_3 l0_3.length c0_3, .slice A0_4 l0_4.length c0_4, .slice A0_5 l0_5.length c0_5] 79 (0, 0)) (blk_mv BK264) hb); have n1_ := Aside0.mk (blk_below (g := gb265) (o := .cells #[.slice A1_0 l1_0.length c1_0, .int .i64 a1_1, .int .i64 a1_2, .slice A1_3 l1_3.length c1_3, .slice A1_4 l1_4.length c1_4, .slice A1_5 l1_5.length c1_5] 79 (0, 0)) (blk_mv BK265) hb); have n2_ := Aside0.mk (below_step (by repeat (first | (with_reducible first | exact HB.out | apply below_alloc | apply pw_below_drewN | apply below_drew1 | refine below_set ?_ GE264.out | refine below_set ?_ GE265.out) | exact HB.out)) hb); clear BK264; clear BK265; clear HB; have BK264 := n0_; have BK265 := n1_; have HB := n2_; clear n0_ n1_ n2_; (try clear hb); (try clear hb2); (try clear hk); (try clear hi)))
 (try simp only [Act.put, List.setIfInBounds_toArray, List.set_cons_zero, List.set_cons_succ])
 have H := HC4.out
 clear HC4
 by_cases c10 : t266 < 0
 ·rw [if_pos c10] at H
  have c10b0 : decide (t266 < 0) = true := decide_eq_true c10
  clear c10
  (first | rw [c10b0] | (simp only [i64_w, i32_w]; rw [c10b0]) | skip)
  obtain rfl := Option.some.inj H
  go_wp2
  go_ret
  exact ⟨by first | rfl | (simp [errW_none, errW_some] <;> rfl) | (simp [*, errW_none, errW_some] <;> rfl), by repeat (first | (with_reducible first | exact HB.out | apply below_alloc | apply pw_below_drewN | apply below_drew1 | refine below_set ?_ GE264.out | refine below_set ?_ GE265.out) | exact HB.out)⟩
 ·rw [if_neg c10] at H
  have c10b0 : decide (t266 < 0) = false := decide_eq_false c10
  clear c10
  (first | rw [c10b0] | (simp only [i64_w, i32_w]; rw [c10b0]) | skip)
  replace H := Option.bind_eq_some_iff.mp H
  obtain ⟨t267, A110, H⟩ := H
  replace H : (if t267 < 0 then (some true) else ((laws_toProof.f k l0_0 a0_1 a0_2 l0_3 l0_4 l0_5).bind fun bt268 => ((laws_toProof.f k l1_0 a1_1 a1_2 l1_3 l1_4 l1_5).bind fun bt282 => ((spec_ProofSame.f k bt268.1 bt268.2.1 bt268.2.2.1 bt268.2.2.2.1 bt268.2.2.2.2.1 bt268.2.2.2.2.2 bt282.1 bt282.2.1 bt282.2.2.1 bt282.2.2.2.1 bt282.2.2.2.2.1 bt282.2.2.2.2.2).bind fun t296 => ((laws_toProof.f k l0_0 a0_1 a0_2 l0_3 l0_4 l0_5).bind fun bt297 => ((laws_toProof.f k l1_0 a1_1 a1_2 l1_3 l1_4 l1_5).bind fun bt312 => ((impl_ProofSame.f k bt297.1 bt297.2.1 bt297.2.2.1 bt297.2.2.2.1 bt297.2.2.2.2.1 bt297.2.2.2.2.2 bt312.1 bt312.2.1 bt312.2.2.1 bt312.2.2.2.1 bt312.2.2.2.2.1 bt312.2.2.2.2.2).bind fun t327 => (if (t327 != t296) = true then (none) else ((laws_toProof.f k l0_0 a0_1 a0_2 l0_3 l0_4 l0_5).bind fun bt328 => ((laws_eqProof.f k bt297.1 bt297.2.1 bt297.2.2.1 bt297.2.2.2.1 bt297.2.2.2.2.1 bt297.2.2.2.2.2 bt328.1 bt328.2.1 bt328.2.2.1 bt328.2.2.2.1 bt328.2.2.2.2.1 bt328.2.2.2.2.2).bind fun t342 => (if t342 = true then ((laws_toProof.f k l1_0 a1_1 a1_2 l1_3 l1_4 l1_5).bind fun bt343 => ((laws_eqProof.f k bt312.1 bt312.2.1 bt312.2.2.1 bt312.2.2.2.1 bt312.2.2.2.2.1 bt312.2.2.2.2.2 bt343.1 bt343.2.1 bt343.2.2.1 bt343.2.2.2.1 bt343.2.2.2.2.1 bt343.2.2.2.2.2).bind fun t357 => (if t357 = true then (some true) else (none)))) else (none)))))))))))) = some r := H
  have A11 := Aside0.mk A110
  clear A110
  have HC12 := Aside0.mk H
  clear H
  have hnb13 := NB265_264.out
  have hnc13 := NB264_265.out
  have hcz14_0 : w9.cell? ⟨gb265, 0, none⟩ = some (.slice A1_0 l1_0.length c1_0) := (blk_cell BK265.out 0).trans rfl
  have hcz14_1 : w9.cell? ⟨gb265, 1, none⟩ = some (.int .i64 a1_1) := (blk_cell BK265.out 1).trans rfl
  have hcz14_2 : w9.cell? ⟨gb265, 2, none⟩ = some (.int .i64 a1_2) := (blk_cell BK265.out 2).trans rfl
  have hcz14_3 : w9.cell? ⟨gb265, 3, none⟩ = some (.slice A1_3 l1_3.length c1_3) := (blk_cell BK265.out 3).trans rfl
  have hcz14_4 : w9.cell? ⟨gb265, 4, none⟩ = some (.slice A1_4 l1_4.length c1_4) := (blk_cell BK265.out 4).trans rfl
  have hcz14_5 : w9.cell? ⟨gb265, 5, none⟩ = some (.slice A1_5 l1_5.length c1_5) := (blk_cell BK265.out 5).trans rfl
  have hfz14_0 := blk_frozen BK265.out 0
  have hfz14_1 := blk_frozen BK265.out 1
  have hfz14_2 := blk_frozen BK265.out 2
  have hfz14_3 := blk_frozen BK265.out 3
  have hfz14_4 := blk_frozen BK265.out 4
  have hfz14_5 := blk_frozen BK265.out 5
  go_upto_if 19 with (first | ((with_reducible refine gate_callee (f := 47) rfl ?_); refine goesL_ (some 17) rfl rfl Try.func47 (by kernel_rfl) rfl #[.agg #[.slice A1_0 l1_0.length c1_0, .int .i64 a1_1, .int .i64 a1_2, .slice A1_3 l1_3.length c1_3, .slice A1_4 l1_4.length c1_4, .slice A1_5 l1_5.length c1_5], .int .i64 t266] rfl (by (try simp only [List.map_toArray, List.map_cons, List.map_nil]); first | done | rfl | (simp only [List.length_drop, List.length_take]; rfl)) ?_; (with_reducible refine (laws_szProof.calls k _ _ l1_0 a1_1 a1_2 _ _ l1_3 _ _ l1_4 _ _ l1_5 t266 t267 _ ?side1 ?side2 ?side3 ?side4 ?side5 ?side6 ?side7 ?side8 A11.out).mono ?_); (case side1 => repeat (first | exact (Kd.C_below HR1_0.out HB.out) | (with_reducible refine Kd.C_alloc ?_ _) | (with_reducible refine Kd.C_drewN ?_ _) | (with_reducible refine Kd.C_drew ?_))); (case side2 => exact HC1_0.out); (case side3 => repeat (first | exact (Kd.C_below HR1_3.out HB.out) | (with_reducible refine Kd.C_alloc ?_ _) | (with_reducible refine Kd.C_drewN ?_ _) | (with_reducible refine Kd.C_drew ?_))); (case side4 => exact HC1_3.out); (case side5 => repeat (first | exact (Kd.C_below HR1_4.out HB.out) | (with_reducible refine Kd.C_alloc ?_ _) | (with_reducible refine Kd.C_drewN ?_ _) | (with_reducible refine Kd.C_drew ?_))); (case side6 => exact HC1_4.out); (case side7 => repeat (first | exact (Kd.C_below HR1_5.out HB.out) | (with_reducible refine Kd.C_alloc ?_ _) | (with_reducible refine Kd.C_drewN ?_ _) | (with_reducible refine Kd.C_drew ?_))); (case side8 => exact HC1_5.out); rintro e w15 ⟨rfl, hb⟩; refine ⟨_, rfl, ?_⟩; have n0_ := Aside0.mk (blk_below (g := gb264) (o := .cells #[.slice A0_0 l0_0.length c0_0, .int .i64 a0_1, .int .i64 a0_2, .slice A0_3 l0_3.length c0_3, .slice A0_4 l0_4.length c0_4, .slice A0_5 l0_5.length c0_5] 79 (0, 0)) (blk_mv BK264) hb); have n1_ := Aside0.mk (blk_below (g := gb265) (o := .cells #[.slice A1_0 l1_0.length c1_0, .int .i64 a1_1, .int .i64 a1_2, .slice A1_3 l1_3.length c1_3, .slice A1_4 l1_4.length c1_4, .slice A1_5 l1_5.length c1_5] 79 (0, 0)) (blk_mv BK265) hb); have n2_ := Aside0.mk (below_step (by repeat (first | (with_reducible first | exact HB.out | apply below_alloc | apply pw_below_drewN | apply below_drew1 | refine below_set ?_ GE264.out | refine below_set ?_ GE265.out) | exact HB.out)) hb); clear BK264; clear BK265; clear HB; have BK264 := n0_; have BK265 := n1_; have HB := n2_; clear n0_ n1_ n2_; (try clear hb); (try clear hb2); (try clear hk); (try clear hi)))
  (try simp only [Act.put, List.setIfInBounds_toArray, List.set_cons_zero, List.set_cons_succ])
  have H := HC12.out
  clear HC12
  by_cases c16 : t267 < 0
  ·rw [if_pos c16] at H
   have c16b0 : decide (t267 < 0) = true := decide_eq_true c16
   clear c16
   (first | rw [c16b0] | (simp only [i64_w, i32_w]; rw [c16b0]) | skip)
   obtain rfl := Option.some.inj H
   go_wp2
   go_ret
   exact ⟨by first | rfl | (simp [errW_none, errW_some] <;> rfl) | (simp [*, errW_none, errW_some] <;> rfl), by repeat (first | (with_reducible first | exact HB.out | apply below_alloc | apply pw_below_drewN | apply below_drew1 | refine below_set ?_ GE264.out | refine below_set ?_ GE265.out) | exact HB.out)⟩
  ·rw [if_neg c16] at H
   have c16b0 : decide (t267 < 0) = false := decide_eq_false c16
   clear c16
   (first | rw [c16b0] | (simp only [i64_w, i32_w]; rw [c16b0]) | skip)
   replace H := Option.bind_eq_some_iff.mp H
   obtain ⟨⟨t268, t271, t272, t273, t276, t279⟩, A170, H⟩ := H
   replace H : ((laws_toProof.f k l1_0 a1_1 a1_2 l1_3 l1_4 l1_5).bind fun bt282 => ((spec_ProofSame.f k t268 t271 t272 t273 t276 t279 bt282.1 bt282.2.1 bt282.2.2.1 bt282.2.2.2.1 bt282.2.2.2.2.1 bt282.2.2.2.2.2).bind fun t296 => ((laws_toProof.f k l0_0 a0_1 a0_2 l0_3 l0_4 l0_5).bind fun bt297 => ((laws_toProof.f k l1_0 a1_1 a1_2 l1_3 l1_4 l1_5).bind fun bt312 => ((impl_ProofSame.f k bt297.1 bt297.2.1 bt297.2.2.1 bt297.2.2.2.1 bt297.2.2.2.2.1 bt297.2.2.2.2.2 bt312.1 bt312.2.1 bt312.2.2.1 bt312.2.2.2.1 bt312.2.2.2.2.1 bt312.2.2.2.2.2).bind fun t327 => (if (t327 != t296) = true then (none) else ((laws_toProof.f k l0_0 a0_1 a0_2 l0_3 l0_4 l0_5).bind fun bt328 => ((laws_eqProof.f k bt297.1 bt297.2.1 bt297.2.2.1 bt297.2.2.2.1 bt297.2.2.2.2.1 bt297.2.2.2.2.2 bt328.1 bt328.2.1 bt328.2.2.1 bt328.2.2.2.1 bt328.2.2.2.2.1 bt328.2.2.2.2.2).bind fun t342 => (if t342 = true then ((laws_toProof.f k l1_0 a1_1 a1_2 l1_3 l1_4 l1_5).bind fun bt343 => ((laws_eqProof.f k bt312.1 bt312.2.1 bt312.2.2.1 bt312.2.2.2.1 bt312.2.2.2.2.1 bt312.2.2.2.2.2 bt343.1 bt343.2.1 bt343.2.2.1 bt343.2.2.2.1 bt343.2.2.2.2.1 bt343.2.2.2.2.2).bind fun t357 => (if t357 = true then (some true) else (none)))) else (none)))))))))) = some r := H
   have A17 := Aside0.mk A170
   clear A170
   replace H := Option.bind_eq_some_iff.mp H
   obtain ⟨⟨t282, t285, t286, t287, t290, t293⟩, A180, H⟩ := H
   replace H : ((spec_ProofSame.f k t268 t271 t272 t273 t276 t279 t282 t285 t286 t287 t290 t293).bind fun t296 => ((laws_toProof.f k l0_0 a0_1 a0_2 l0_3 l0_4 l0_5).bind fun bt297 => ((laws_toProof.f k l1_0 a1_1 a1_2 l1_3 l1_4 l1_5).bind fun bt312 => ((impl_ProofSame.f k bt297.1 bt297.2.1 bt297.2.2.1 bt297.2.2.2.1 bt297.2.2.2.2.1 bt297.2.2.2.2.2 bt312.1 bt312.2.1 bt312.2.2.1 bt312.2.2.2.1 bt312.2.2.2.2.1 bt312.2.2.2.2.2).bind fun t327 => (if (t327 != t296) = true then (none) else ((laws_toProof.f k l0_0 a0_1 a0_2 l0_3 l0_4 l0_5).bind fun bt328 => ((laws_eqProof.f k bt297.1 bt297.2.1 bt297.2.2.1 bt297.2.2.2.1 bt297.2.2.2.2.1 bt297.2.2.2.2.2 bt328.1 bt328.2.1 bt328.2.2.1 bt328.2.2.2.1 bt328.2.2.2.2.1 bt328.2.2.2.2.2).bind fun t342 => (if t342 = true then ((laws_toProof.f k l1_0 a1_1 a1_2 l1_3 l1_4 l1_5).bind fun bt343 => ((laws_eqProof.f k bt312.1 bt312.2.1 bt312.2.2.1 bt312.2.2.2.1 bt312.2.2.2.2.1 bt312.2.2.2.2.2 bt343.1 bt343.2.1 bt343.2.2.1 bt343.2.2.2.1 bt343.2.2.2.2.1 bt343.2.2.2.2.2).bind fun t357 => (if t357 = true then (some true) else (none)))) else (none))))))))) = some r := H
   have A18 := Aside0.mk A180
   clear A180
   replace H := Option.bind_eq_some_iff.mp H
   obtain ⟨t296, A190, H⟩ := H
   replace H : ((laws_toProof.f k l0_0 a0_1 a0_2 l0_3 l0_4 l0_5).bind fun bt297 => ((laws_toProof.f k l1_0 a1_1 a1_2 l1_3 l1_4 l1_5).bind fun bt312 => ((impl_ProofSame.f k bt297.1 bt297.2.1 bt297.2.2.1 bt297.2.2.2.1 bt297.2.2.2.2.1 bt297.2.2.2.2.2 bt312.1 bt312.2.1 bt312.2.2.1 bt312.2.2.2.1 bt312.2.2.2.2.1 bt312.2.2.2.2.2).bind fun t327 => (if (t327 != t296) = true then (none) else ((laws_toProof.f k l0_0 a0_1 a0_2 l0_3 l0_4 l0_5).bind fun bt328 => ((laws_eqProof.f k bt297.1 bt297.2.1 bt297.2.2.1 bt297.2.2.2.1 bt297.2.2.2.2.1 bt297.2.2.2.2.2 bt328.1 bt328.2.1 bt328.2.2.1 bt328.2.2.2.1 bt328.2.2.2.2.1 bt328.2.2.2.2.2).bind fun t342 => (if t342 = true then ((laws_toProof.f k l1_0 a1_1 a1_2 l1_3 l1_4 l1_5).bind fun bt343 => ((laws_eqProof.f k bt312.1 bt312.2.1 bt312.2.2.1 bt312.2.2.2.1 bt312.2.2.2.2.1 bt312.2.2.2.2.2 bt343.1 bt343.2.1 bt343.2.2.1 bt343.2.2.2.1 bt343.2.2.2.2.1 bt343.2.2.2.2.2).bind fun t357 => (if t357 = true then (some true) else (none)))) else (none)))))))) = some r := H
   have A19 := Aside0.mk A190
   clear A190
   replace H := Option.bind_eq_some_iff.mp H
   obtain ⟨⟨t297, t300, t301, t302, t305, t308⟩, A200, H⟩ := H
   replace H : ((laws_toProof.f k l1_0 a1_1 a1_2 l1_3 l1_4 l1_5).bind fun bt312 => ((impl_ProofSame.f k t297 t300 t301 t302 t305 t308 bt312.1 bt312.2.1 bt312.2.2.1 bt312.2.2.2.1 bt312.2.2.2.2.1 bt312.2.2.2.2.2).bind fun t327 => (if (t327 != t296) = true then (none) else ((laws_toProof.f k l0_0 a0_1 a0_2 l0_3 l0_4 l0_5).bind fun bt328 => ((laws_eqProof.f k t297 t300 t301 t302 t305 t308 bt328.1 bt328.2.1 bt328.2.2.1 bt328.2.2.2.1 bt328.2.2.2.2.1 bt328.2.2.2.2.2).bind fun t342 => (if t342 = true then ((laws_toProof.f k l1_0 a1_1 a1_2 l1_3 l1_4 l1_5).bind fun bt343 => ((laws_eqProof.f k bt312.1 bt312.2.1 bt312.2.2.1 bt312.2.2.2.1 bt312.2.2.2.2.1 bt312.2.2.2.2.2 bt343.1 bt343.2.1 bt343.2.2.1 bt343.2.2.2.1 bt343.2.2.2.2.1 bt343.2.2.2.2.2).bind fun t357 => (if t357 = true then (some true) else (none)))) else (none))))))) = some r := H
   have A20 := Aside0.mk A200
   clear A200
   replace H := Option.bind_eq_some_iff.mp H
   obtain ⟨⟨t312, t315, t316, t317, t320, t323⟩, A210, H⟩ := H
   replace H : ((impl_ProofSame.f k t297 t300 t301 t302 t305 t308 t312 t315 t316 t317 t320 t323).bind fun t327 => (if (t327 != t296) = true then (none) else ((laws_toProof.f k l0_0 a0_1 a0_2 l0_3 l0_4 l0_5).bind fun bt328 => ((laws_eqProof.f k t297 t300 t301 t302 t305 t308 bt328.1 bt328.2.1 bt328.2.2.1 bt328.2.2.2.1 bt328.2.2.2.2.1 bt328.2.2.2.2.2).bind fun t342 => (if t342 = true then ((laws_toProof.f k l1_0 a1_1 a1_2 l1_3 l1_4 l1_5).bind fun bt343 => ((laws_eqProof.f k t312 t315 t316 t317 t320 t323 bt343.1 bt343.2.1 bt343.2.2.1 bt343.2.2.2.1 bt343.2.2.2.2.1 bt343.2.2.2.2.2).bind fun t357 => (if t357 = true then (some true) else (none)))) else (none)))))) = some r := H
   have A21 := Aside0.mk A210
   clear A210
   replace H := Option.bind_eq_some_iff.mp H
   obtain ⟨t327, A220, H⟩ := H
   replace H : (if (t327 != t296) = true then (none) else ((laws_toProof.f k l0_0 a0_1 a0_2 l0_3 l0_4 l0_5).bind fun bt328 => ((laws_eqProof.f k t297 t300 t301 t302 t305 t308 bt328.1 bt328.2.1 bt328.2.2.1 bt328.2.2.2.1 bt328.2.2.2.2.1 bt328.2.2.2.2.2).bind fun t342 => (if t342 = true then ((laws_toProof.f k l1_0 a1_1 a1_2 l1_3 l1_4 l1_5).bind fun bt343 => ((laws_eqProof.f k t312 t315 t316 t317 t320 t323 bt343.1 bt343.2.1 bt343.2.2.1 bt343.2.2.2.1 bt343.2.2.2.2.1 bt343.2.2.2.2.2).bind fun t357 => (if t357 = true then (some true) else (none)))) else (none))))) = some r := H
   have A22 := Aside0.mk A220
   clear A220
   by_cases c23 : (t327 != t296) = true
   ·rw [if_pos c23] at H
    exact absurd H (by simp)
   ·rw [if_neg c23] at H
    have c23b0 : (t327 != t296) = false := by simpa using c23
    (try (have c23b1 : decide (t327 = t296) = true := by simpa using c23))
    (try (have c23b2 : (t327 == t296) = true := by simpa using c23))
    clear c23
    replace H := Option.bind_eq_some_iff.mp H
    obtain ⟨⟨t328, t331, t332, t333, t336, t339⟩, A240, H⟩ := H
    replace H : ((laws_eqProof.f k t297 t300 t301 t302 t305 t308 t328 t331 t332 t333 t336 t339).bind fun t342 => (if t342 = true then ((laws_toProof.f k l1_0 a1_1 a1_2 l1_3 l1_4 l1_5).bind fun bt343 => ((laws_eqProof.f k t312 t315 t316 t317 t320 t323 bt343.1 bt343.2.1 bt343.2.2.1 bt343.2.2.2.1 bt343.2.2.2.2.1 bt343.2.2.2.2.2).bind fun t357 => (if t357 = true then (some true) else (none)))) else (none))) = some r := H
    have A24 := Aside0.mk A240
    clear A240
    replace H := Option.bind_eq_some_iff.mp H
    obtain ⟨t342, A250, H⟩ := H
    replace H : (if t342 = true then ((laws_toProof.f k l1_0 a1_1 a1_2 l1_3 l1_4 l1_5).bind fun bt343 => ((laws_eqProof.f k t312 t315 t316 t317 t320 t323 bt343.1 bt343.2.1 bt343.2.2.1 bt343.2.2.2.1 bt343.2.2.2.2.1 bt343.2.2.2.2.2).bind fun t357 => (if t357 = true then (some true) else (none)))) else (none)) = some r := H
    have A25 := Aside0.mk A250
    clear A250
    by_cases c26 : t342 = true
    ·subst c26
     have H1 : ((laws_toProof.f k l1_0 a1_1 a1_2 l1_3 l1_4 l1_5).bind fun bt343 => ((laws_eqProof.f k t312 t315 t316 t317 t320 t323 bt343.1 bt343.2.1 bt343.2.2.1 bt343.2.2.2.1 bt343.2.2.2.2.1 bt343.2.2.2.2.2).bind fun t357 => (if t357 = true then (some true) else (none)))) = some r := by rw [if_pos rfl] at H; exact H
     clear H
     have H := H1
     clear H1
     replace H := Option.bind_eq_some_iff.mp H
     obtain ⟨⟨t343, t346, t347, t348, t351, t354⟩, A270, H⟩ := H
     replace H : ((laws_eqProof.f k t312 t315 t316 t317 t320 t323 t343 t346 t347 t348 t351 t354).bind fun t357 => (if t357 = true then (some true) else (none))) = some r := H
     have A27 := Aside0.mk A270
     clear A270
     replace H := Option.bind_eq_some_iff.mp H
     obtain ⟨t357, A280, H⟩ := H
     replace H : (if t357 = true then (some true) else (none)) = some r := H
     have A28 := Aside0.mk A280
     clear A280
     by_cases c29 : t357 = true
     ·subst c29
      have H1 : (some true) = some r := by rw [if_pos rfl] at H; exact H
      clear H
      have H := H1
      clear H1
      obtain rfl := Option.some.inj H
      try go_wp2
      have n0_ := Aside0.mk (blk_drew BK264.out)
      have n1_ := Aside0.mk (blk_drew BK265.out)
      have n2_ := Aside0.mk (below_drew1 HB.out)
      clear BK264
      clear BK265
      clear HB
      have BK264 := n0_
      have BK265 := n1_
      have HB := n2_
      clear n0_ n1_ n2_
      refine start_ (n := 6) (S := fun w' => w'.cell? ⟨gb264, 0, none⟩ = some (.slice A0_0 l0_0.length c0_0) ∧ w'.cell? ⟨gb264, 1, none⟩ = some (.int .i64 a0_1) ∧ w'.cell? ⟨gb264, 2, none⟩ = some (.int .i64 a0_2) ∧ w'.cell? ⟨gb264, 3, none⟩ = some (.slice A0_3 l0_3.length c0_3) ∧ w'.cell? ⟨gb264, 4, none⟩ = some (.slice A0_4 l0_4.length c0_4) ∧ w'.cell? ⟨gb264, 5, none⟩ = some (.slice A0_5 l0_5.length c0_5) ∧ w'.cell? ⟨gb265, 0, none⟩ = some (.slice A1_0 l1_0.length c1_0) ∧ w'.cell? ⟨gb265, 1, none⟩ = some (.int .i64 a1_1) ∧ w'.cell? ⟨gb265, 2, none⟩ = some (.int .i64 a1_2) ∧ w'.cell? ⟨gb265, 3, none⟩ = some (.slice A1_3 l1_3.length c1_3) ∧ w'.cell? ⟨gb265, 4, none⟩ = some (.slice A1_4 l1_4.length c1_4) ∧ w'.cell? ⟨gb265, 5, none⟩ = some (.slice A1_5 l1_5.length c1_5)) (ds := []) #[false, false, false, false, false, false] (by kernel_rfl) rfl rfl ⟨(blk_cell BK264.out 0).trans rfl, (blk_cell BK264.out 1).trans rfl, (blk_cell BK264.out 2).trans rfl, (blk_cell BK264.out 3).trans rfl, (blk_cell BK264.out 4).trans rfl, (blk_cell BK264.out 5).trans rfl, (blk_cell BK265.out 0).trans rfl, (blk_cell BK265.out 1).trans rfl, (blk_cell BK265.out 2).trans rfl, (blk_cell BK265.out 3).trans rfl, (blk_cell BK265.out 4).trans rfl, (blk_cell BK265.out 5).trans rfl⟩ (fun hHeld => ?_)
      generalize w15.drew = w30 at BK264 BK265 HB hHeld ⊢
      refine take_ (i := 0) (N := some 20) (v := ?_) (a' := ?_) #[true, false, false, false, false, false] rfl rfl (by kernel_rfl) (fun _ _ _ h => h) (Or.inl ⟨by rfl, ?_⟩) hHeld ?_ ?_
      rotate_left
      ·rintro w' ⟨s0, s1, s2, s3, s4, s5, s6, s7, s8, s9, s10, s11⟩
       go_simp
       with_reducible rfl
      rotate_left
      ·simp only [Act.put, List.setIfInBounds_toArray, List.set_cons_zero, List.set_cons_succ, i64_w, i32_w]
       rfl
      refine take_ (i := 2) (N := some 22) (v := ?_) (a' := ?_) #[true, false, true, false, false, false] rfl rfl (by kernel_rfl) (fun _ _ _ h => h) (Or.inl ⟨by rfl, ?_⟩) hHeld ?_ ?_
      rotate_left
      ·rintro w' ⟨s0, s1, s2, s3, s4, s5, s6, s7, s8, s9, s10, s11⟩
       go_simp
       with_reducible rfl
      rotate_left
      ·simp only [Act.put, List.setIfInBounds_toArray, List.set_cons_zero, List.set_cons_succ, i64_w, i32_w]
       rfl
      refine one_ (i := 1) (N := some 21) #[true, true, true, false, false, false] rfl rfl (by kernel_rfl) (by decide) (fun K hK => ?_)
      refine goes_ Try.func49 (by kernel_rfl) rfl #[.agg #[.slice A0_0 l0_0.length c0_0, .int .i64 a0_1, .int .i64 a0_2, .slice A0_3 l0_3.length c0_3, .slice A0_4 l0_4.length c0_4, .slice A0_5 l0_5.length c0_5]] (by rfl) rfl rfl (by (try simp only [List.map_toArray, List.map_cons, List.map_nil]); first | done | rfl | (simp only [List.length_drop, List.length_take]; rfl)) ?_
      with_reducible refine (laws_toProof.calls k _ _ l0_0 a0_1 a0_2 _ _ l0_3 _ _ l0_4 _ _ l0_5 t268 t271 t272 t273 t276 t279 _ ?side1 ?side2 ?side3 ?side4 ?side5 ?side6 ?side7 ?side8 A17.out).mono ?_
      (case side1 => repeat (first | exact (Kd.C_below HR0_0.out HB.out) | (with_reducible refine Kd.C_alloc ?_ _) | (with_reducible refine Kd.C_drewN ?_ _) | (with_reducible refine Kd.C_drew ?_)))
      (case side2 => exact HC0_0.out)
      (case side3 => repeat (first | exact (Kd.C_below HR0_3.out HB.out) | (with_reducible refine Kd.C_alloc ?_ _) | (with_reducible refine Kd.C_drewN ?_ _) | (with_reducible refine Kd.C_drew ?_)))
      (case side4 => exact HC0_3.out)
      (case side5 => repeat (first | exact (Kd.C_below HR0_4.out HB.out) | (with_reducible refine Kd.C_alloc ?_ _) | (with_reducible refine Kd.C_drewN ?_ _) | (with_reducible refine Kd.C_drew ?_)))
      (case side6 => exact HC0_4.out)
      (case side7 => repeat (first | exact (Kd.C_below HR0_5.out HB.out) | (with_reducible refine Kd.C_alloc ?_ _) | (with_reducible refine Kd.C_drewN ?_ _) | (with_reducible refine Kd.C_drew ?_)))
      (case side8 => exact HC0_5.out)
      rintro e w31 ⟨v269, v274, v277, v280, rfl, ho0, ho1, ho2, ho3, hb⟩
      refine ⟨_, rfl, ?_⟩
      have n0_ := Aside0.mk (Kd.R_lower ho0 (below_size (by repeat (first | (with_reducible first | exact HB.out | apply below_alloc | apply pw_below_drewN | apply below_drew1 | refine below_set ?_ GE264.out | refine below_set ?_ GE265.out) | exact HB.out))))
      have n1_ := Aside0.mk (Kd.R_lower ho1 (below_size (by repeat (first | (with_reducible first | exact HB.out | apply below_alloc | apply pw_below_drewN | apply below_drew1 | refine below_set ?_ GE264.out | refine below_set ?_ GE265.out) | exact HB.out))))
      have n2_ := Aside0.mk (Kd.R_lower ho2 (below_size (by repeat (first | (with_reducible first | exact HB.out | apply below_alloc | apply pw_below_drewN | apply below_drew1 | refine below_set ?_ GE264.out | refine below_set ?_ GE265.out) | exact HB.out))))
      have n3_ := Aside0.mk (Kd.S_lower ho3 (below_size (by repeat (first | (with_reducible first | exact HB.out | apply below_alloc | apply pw_below_drewN | apply below_drew1 | refine below_set ?_ GE264.out | refine below_set ?_ GE265.out) | exact HB.out))))
      have n4_ := Aside0.mk (blk_below (g := gb264) (o := .cells #[.slice A0_0 l0_0.length c0_0, .int .i64 a0_1, .int .i64 a0_2, .slice A0_3 l0_3.length c0_3, .slice A0_4 l0_4.length c0_4, .slice A0_5 l0_5.length c0_5] 79 (0, 0)) (blk_mv BK264) hb)
      have n5_ := Aside0.mk (blk_below (g := gb265) (o := .cells #[.slice A1_0 l1_0.length c1_0, .int .i64 a1_1, .int .i64 a1_2, .slice A1_3 l1_3.length c1_3, .slice A1_4 l1_4.length c1_4, .slice A1_5 l1_5.length c1_5] 79 (0, 0)) (blk_mv BK265) hb)
      have n6_ := Aside0.mk (below_step (by repeat (first | (with_reducible first | exact HB.out | apply below_alloc | apply pw_below_drewN | apply below_drew1 | refine below_set ?_ GE264.out | refine below_set ?_ GE265.out) | exact HB.out)) hb)
      clear BK264
      clear BK265
      clear HB
      have HO270 := n0_
      have HO275 := n1_
      have HO278 := n2_
      have HO281 := n3_
      have BK264 := n4_
      have BK265 := n5_
      have HB := n6_
      clear n0_ n1_ n2_ n3_ n4_ n5_ n6_
      (try clear hb)
      (try clear hb2)
      (try clear hk)
      (try clear hi)
      (try clear ho0)
      (try clear ho1)
      (try clear ho2)
      (try clear ho3)
      refine hK.out _ _ ⟨(blk_cell BK264.out 0).trans rfl, (blk_cell BK264.out 1).trans rfl, (blk_cell BK264.out 2).trans rfl, (blk_cell BK264.out 3).trans rfl, (blk_cell BK264.out 4).trans rfl, (blk_cell BK264.out 5).trans rfl, (blk_cell BK265.out 0).trans rfl, (blk_cell BK265.out 1).trans rfl, (blk_cell BK265.out 2).trans rfl, (blk_cell BK265.out 3).trans rfl, (blk_cell BK265.out 4).trans rfl, (blk_cell BK265.out 5).trans rfl⟩ (fun hHeld => ?_)
      clear hK K
      refine norm_ (a' := ?_) ?_ ?_
      rotate_left
      ·show Act.put _ (some 21) _ = _
       simp only [Act.put, List.setIfInBounds_toArray, List.set_cons_zero, List.set_cons_succ, i64_w, i32_w]
       rfl
      refine one_ (i := 3) (N := some 23) #[true, true, true, true, false, false] rfl rfl (by kernel_rfl) (by decide) (fun K hK => ?_)
      refine goes_ Try.func49 (by kernel_rfl) rfl #[.agg #[.slice A1_0 l1_0.length c1_0, .int .i64 a1_1, .int .i64 a1_2, .slice A1_3 l1_3.length c1_3, .slice A1_4 l1_4.length c1_4, .slice A1_5 l1_5.length c1_5]] (by rfl) rfl rfl (by (try simp only [List.map_toArray, List.map_cons, List.map_nil]); first | done | rfl | (simp only [List.length_drop, List.length_take]; rfl)) ?_
      with_reducible refine (laws_toProof.calls k _ _ l1_0 a1_1 a1_2 _ _ l1_3 _ _ l1_4 _ _ l1_5 t282 t285 t286 t287 t290 t293 _ ?side1 ?side2 ?side3 ?side4 ?side5 ?side6 ?side7 ?side8 A18.out).mono ?_
      (case side1 => repeat (first | exact (Kd.C_below HR1_0.out HB.out) | (with_reducible refine Kd.C_alloc ?_ _) | (with_reducible refine Kd.C_drewN ?_ _) | (with_reducible refine Kd.C_drew ?_)))
      (case side2 => exact HC1_0.out)
      (case side3 => repeat (first | exact (Kd.C_below HR1_3.out HB.out) | (with_reducible refine Kd.C_alloc ?_ _) | (with_reducible refine Kd.C_drewN ?_ _) | (with_reducible refine Kd.C_drew ?_)))
      (case side4 => exact HC1_3.out)
      (case side5 => repeat (first | exact (Kd.C_below HR1_4.out HB.out) | (with_reducible refine Kd.C_alloc ?_ _) | (with_reducible refine Kd.C_drewN ?_ _) | (with_reducible refine Kd.C_drew ?_)))
      (case side6 => exact HC1_4.out)
      (case side7 => repeat (first | exact (Kd.C_below HR1_5.out HB.out) | (with_reducible refine Kd.C_alloc ?_ _) | (with_reducible refine Kd.C_drewN ?_ _) | (with_reducible refine Kd.C_drew ?_)))
      (case side8 => exact HC1_5.out)
      rintro e w32 ⟨v283, v288, v291, v294, rfl, ho0, ho1, ho2, ho3, hb⟩
      refine ⟨_, rfl, ?_⟩
      have n0_ := Aside0.mk (Kd.R_mono (Kd.R_told (Kd.R_told (Kd.R_told (Kd.R_told (Kd.R_old (Kd.R_mv HO270) hb) (Kd.R_base ho0)) (Kd.R_base ho1)) (Kd.R_base ho2)) (Kd.S_base ho3)) (fun _ h_ => h_.1))
      have n1_ := Aside0.mk (Kd.R_mono (Kd.R_told (Kd.R_told (Kd.R_old (Kd.R_mv HO275) hb) (Kd.R_base ho1)) (Kd.R_base ho2)) (fun _ h_ => h_.1))
      have n2_ := Aside0.mk (Kd.R_mono (Kd.R_told (Kd.R_told (Kd.R_old (Kd.R_mv HO278) hb) (Kd.R_base ho1)) (Kd.R_base ho2)) (fun _ h_ => h_.1))
      have n3_ := Aside0.mk (Kd.S_mono (Kd.S_told (Kd.S_told (Kd.S_told (Kd.S_old (Kd.S_mv HO281) hb) (Kd.R_base ho1)) (Kd.R_base ho2)) (Kd.S_base ho3)) (fun _ h_ => h_.1))
      have n4_ := Aside0.mk (Kd.R_lower (Kd.R_new' (Kd.R_new' (Kd.R_new' (Kd.R_new' ho0 (Kd.R_lt (Kd.R_mv HO270))) (Kd.R_lt (Kd.R_mv HO275))) (Kd.R_lt (Kd.R_mv HO278))) (Kd.S_lt (Kd.S_mv HO281))) (below_size (by repeat (first | (with_reducible first | exact HB.out | apply below_alloc | apply pw_below_drewN | apply below_drew1 | refine below_set ?_ GE264.out | refine below_set ?_ GE265.out) | exact HB.out))))
      have n5_ := Aside0.mk (Kd.R_lower (Kd.R_new' (Kd.R_new' ho1 (Kd.R_lt (Kd.R_mv HO275))) (Kd.R_lt (Kd.R_mv HO278))) (below_size (by repeat (first | (with_reducible first | exact HB.out | apply below_alloc | apply pw_below_drewN | apply below_drew1 | refine below_set ?_ GE264.out | refine below_set ?_ GE265.out) | exact HB.out))))
      have n6_ := Aside0.mk (Kd.R_lower (Kd.R_new' (Kd.R_new' ho2 (Kd.R_lt (Kd.R_mv HO275))) (Kd.R_lt (Kd.R_mv HO278))) (below_size (by repeat (first | (with_reducible first | exact HB.out | apply below_alloc | apply pw_below_drewN | apply below_drew1 | refine below_set ?_ GE264.out | refine below_set ?_ GE265.out) | exact HB.out))))
      have n7_ := Aside0.mk (Kd.S_lower (Kd.S_new' (Kd.S_new' (Kd.S_new' ho3 (Kd.R_lt (Kd.R_mv HO275))) (Kd.R_lt (Kd.R_mv HO278))) (Kd.S_lt (Kd.S_mv HO281))) (below_size (by repeat (first | (with_reducible first | exact HB.out | apply below_alloc | apply pw_below_drewN | apply below_drew1 | refine below_set ?_ GE264.out | refine below_set ?_ GE265.out) | exact HB.out))))
      have n8_ := Aside0.mk (blk_below (g := gb264) (o := .cells #[.slice A0_0 l0_0.length c0_0, .int .i64 a0_1, .int .i64 a0_2, .slice A0_3 l0_3.length c0_3, .slice A0_4 l0_4.length c0_4, .slice A0_5 l0_5.length c0_5] 79 (0, 0)) (blk_mv BK264) hb)
      have n9_ := Aside0.mk (blk_below (g := gb265) (o := .cells #[.slice A1_0 l1_0.length c1_0, .int .i64 a1_1, .int .i64 a1_2, .slice A1_3 l1_3.length c1_3, .slice A1_4 l1_4.length c1_4, .slice A1_5 l1_5.length c1_5] 79 (0, 0)) (blk_mv BK265) hb)
      have n10_ := Aside0.mk (below_step (by repeat (first | (with_reducible first | exact HB.out | apply below_alloc | apply pw_below_drewN | apply below_drew1 | refine below_set ?_ GE264.out | refine below_set ?_ GE265.out) | exact HB.out)) hb)
      clear HO270
      clear HO275
      clear HO278
      clear HO281
      clear BK264
      clear BK265
      clear HB
      have HO270 := n0_
      have HO275 := n1_
      have HO278 := n2_
      have HO281 := n3_
      have HO284 := n4_
      have HO289 := n5_
      have HO292 := n6_
      have HO295 := n7_
      have BK264 := n8_
      have BK265 := n9_
      have HB := n10_
      clear n0_ n1_ n2_ n3_ n4_ n5_ n6_ n7_ n8_ n9_ n10_
      (try clear hb)
      (try clear hb2)
      (try clear hk)
      (try clear hi)
      (try clear ho0)
      (try clear ho1)
      (try clear ho2)
      (try clear ho3)
      obtain ⟨Ao33, co33, eo33⟩ := Kd.R_slice HO270.out
      (first | subst eo33 | (injection eo33 with f1_ f2_ f3_; have f4_ := f1_.symm; have f5_ := f3_.symm; clear f1_ f2_ f3_; subst f4_; subst f5_))
      obtain ⟨Ao34, co34, eo34⟩ := Kd.R_slice HO275.out
      (first | subst eo34 | (injection eo34 with f1_ f2_ f3_; have f4_ := f1_.symm; have f5_ := f3_.symm; clear f1_ f2_ f3_; subst f4_; subst f5_))
      obtain ⟨Ao35, co35, eo35⟩ := Kd.R_slice HO278.out
      (first | subst eo35 | (injection eo35 with f1_ f2_ f3_; have f4_ := f1_.symm; have f5_ := f3_.symm; clear f1_ f2_ f3_; subst f4_; subst f5_))
      obtain ⟨Ao36, co36, eo36⟩ := Kd.S_slice HO281.out
      (first | subst eo36 | (injection eo36 with f1_ f2_ f3_; have f4_ := f1_.symm; have f5_ := f3_.symm; clear f1_ f2_ f3_; subst f4_; subst f5_))
      obtain ⟨Ao37, co37, eo37⟩ := Kd.R_slice HO284.out
      (first | subst eo37 | (injection eo37 with f1_ f2_ f3_; have f4_ := f1_.symm; have f5_ := f3_.symm; clear f1_ f2_ f3_; subst f4_; subst f5_))
      obtain ⟨Ao38, co38, eo38⟩ := Kd.R_slice HO289.out
      (first | subst eo38 | (injection eo38 with f1_ f2_ f3_; have f4_ := f1_.symm; have f5_ := f3_.symm; clear f1_ f2_ f3_; subst f4_; subst f5_))
      obtain ⟨Ao39, co39, eo39⟩ := Kd.R_slice HO292.out
      (first | subst eo39 | (injection eo39 with f1_ f2_ f3_; have f4_ := f1_.symm; have f5_ := f3_.symm; clear f1_ f2_ f3_; subst f4_; subst f5_))
      obtain ⟨Ao40, co40, eo40⟩ := Kd.S_slice HO295.out
      (first | subst eo40 | (injection eo40 with f1_ f2_ f3_; have f4_ := f1_.symm; have f5_ := f3_.symm; clear f1_ f2_ f3_; subst f4_; subst f5_))
      refine hK.out _ _ ⟨(blk_cell BK264.out 0).trans rfl, (blk_cell BK264.out 1).trans rfl, (blk_cell BK264.out 2).trans rfl, (blk_cell BK264.out 3).trans rfl, (blk_cell BK264.out 4).trans rfl, (blk_cell BK264.out 5).trans rfl, (blk_cell BK265.out 0).trans rfl, (blk_cell BK265.out 1).trans rfl, (blk_cell BK265.out 2).trans rfl, (blk_cell BK265.out 3).trans rfl, (blk_cell BK265.out 4).trans rfl, (blk_cell BK265.out 5).trans rfl⟩ (fun hHeld => ?_)
      clear hK K
      refine norm_ (a' := ?_) ?_ ?_
      rotate_left
      ·show Act.put _ (some 23) _ = _
       simp only [Act.put, List.setIfInBounds_toArray, List.set_cons_zero, List.set_cons_succ, i64_w, i32_w]
       rfl
      refine one_ (i := 4) (N := some 24) #[true, true, true, true, true, false] rfl rfl (by kernel_rfl) (by decide) (fun K hK => ?_)
      refine goes_ Try.func48 (by kernel_rfl) rfl #[.agg #[.slice Ao33 t268.length co33, .int .i64 t271, .int .i64 t272, .slice Ao34 t273.length co34, .slice Ao35 t276.length co35, .slice Ao36 t279.length co36], .agg #[.slice Ao37 t282.length co37, .int .i64 t285, .int .i64 t286, .slice Ao38 t287.length co38, .slice Ao39 t290.length co39, .slice Ao40 t293.length co40]] (by rfl) rfl rfl (by (try simp only [List.map_toArray, List.map_cons, List.map_nil]); first | done | rfl | (simp only [List.length_drop, List.length_take]; rfl)) ?_
      with_reducible refine (spec_ProofSame.calls k _ _ t268 t271 t272 _ _ t273 _ _ t276 _ _ t279 _ _ t282 t285 t286 _ _ t287 _ _ t290 _ _ t293 t296 _ ?side1 ?side2 ?side3 ?side4 ?side5 ?side6 ?side7 ?side8 ?side9 ?side10 ?side11 ?side12 ?side13 ?side14 ?side15 ?side16 A19.out).mono ?_
      (case side1 => repeat (first | exact (Kd.R_reads' HO270.out).2.2 | (with_reducible refine Kd.C_alloc ?_ _) | (with_reducible refine Kd.C_drewN ?_ _) | (with_reducible refine Kd.C_drew ?_)))
      (case side2 => exact (Kd.R_reads' HO270.out).2.1)
      (case side3 => repeat (first | exact (Kd.R_reads' HO275.out).2.2 | (with_reducible refine Kd.C_alloc ?_ _) | (with_reducible refine Kd.C_drewN ?_ _) | (with_reducible refine Kd.C_drew ?_)))
      (case side4 => exact (Kd.R_reads' HO275.out).2.1)
      (case side5 => repeat (first | exact (Kd.R_reads' HO278.out).2.2 | (with_reducible refine Kd.C_alloc ?_ _) | (with_reducible refine Kd.C_drewN ?_ _) | (with_reducible refine Kd.C_drew ?_)))
      (case side6 => exact (Kd.R_reads' HO278.out).2.1)
      (case side7 => repeat (first | exact (Kd.S_reads' HO281.out).2.2 | (with_reducible refine Kd.C_alloc ?_ _) | (with_reducible refine Kd.C_drewN ?_ _) | (with_reducible refine Kd.C_drew ?_)))
      (case side8 => exact (Kd.S_reads' HO281.out).2.1)
      (case side9 => repeat (first | exact (Kd.R_reads' HO284.out).2.2 | (with_reducible refine Kd.C_alloc ?_ _) | (with_reducible refine Kd.C_drewN ?_ _) | (with_reducible refine Kd.C_drew ?_)))
      (case side10 => exact (Kd.R_reads' HO284.out).2.1)
      (case side11 => repeat (first | exact (Kd.R_reads' HO289.out).2.2 | (with_reducible refine Kd.C_alloc ?_ _) | (with_reducible refine Kd.C_drewN ?_ _) | (with_reducible refine Kd.C_drew ?_)))
      (case side12 => exact (Kd.R_reads' HO289.out).2.1)
      (case side13 => repeat (first | exact (Kd.R_reads' HO292.out).2.2 | (with_reducible refine Kd.C_alloc ?_ _) | (with_reducible refine Kd.C_drewN ?_ _) | (with_reducible refine Kd.C_drew ?_)))
      (case side14 => exact (Kd.R_reads' HO292.out).2.1)
      (case side15 => repeat (first | exact (Kd.S_reads' HO295.out).2.2 | (with_reducible refine Kd.C_alloc ?_ _) | (with_reducible refine Kd.C_drewN ?_ _) | (with_reducible refine Kd.C_drew ?_)))
      (case side16 => exact (Kd.S_reads' HO295.out).2.1)
      rintro e w41 ⟨rfl, hb⟩
      refine ⟨_, rfl, ?_⟩
      have n0_ := Aside0.mk (Kd.R_below (Kd.R_mv HO270) hb)
      have n1_ := Aside0.mk (Kd.R_below (Kd.R_mv HO275) hb)
      have n2_ := Aside0.mk (Kd.R_below (Kd.R_mv HO278) hb)
      have n3_ := Aside0.mk (Kd.S_below (Kd.S_mv HO281) hb)
      have n4_ := Aside0.mk (Kd.R_below (Kd.R_mv HO284) hb)
      have n5_ := Aside0.mk (Kd.R_below (Kd.R_mv HO289) hb)
      have n6_ := Aside0.mk (Kd.R_below (Kd.R_mv HO292) hb)
      have n7_ := Aside0.mk (Kd.S_below (Kd.S_mv HO295) hb)
      have n8_ := Aside0.mk (blk_below (g := gb264) (o := .cells #[.slice A0_0 l0_0.length c0_0, .int .i64 a0_1, .int .i64 a0_2, .slice A0_3 l0_3.length c0_3, .slice A0_4 l0_4.length c0_4, .slice A0_5 l0_5.length c0_5] 79 (0, 0)) (blk_mv BK264) hb)
      have n9_ := Aside0.mk (blk_below (g := gb265) (o := .cells #[.slice A1_0 l1_0.length c1_0, .int .i64 a1_1, .int .i64 a1_2, .slice A1_3 l1_3.length c1_3, .slice A1_4 l1_4.length c1_4, .slice A1_5 l1_5.length c1_5] 79 (0, 0)) (blk_mv BK265) hb)
      have n10_ := Aside0.mk (below_step (by repeat (first | (with_reducible first | exact HB.out | apply below_alloc | apply pw_below_drewN | apply below_drew1 | refine below_set ?_ GE264.out | refine below_set ?_ GE265.out) | exact HB.out)) hb)
      clear HO270
      clear HO275
      clear HO278
      clear HO281
      clear HO284
      clear HO289
      clear HO292
      clear HO295
      clear BK264
      clear BK265
      clear HB
      have HO270 := n0_
      have HO275 := n1_
      have HO278 := n2_
      have HO281 := n3_
      have HO284 := n4_
      have HO289 := n5_
      have HO292 := n6_
      have HO295 := n7_
      have BK264 := n8_
      have BK265 := n9_
      have HB := n10_
      clear n0_ n1_ n2_ n3_ n4_ n5_ n6_ n7_ n8_ n9_ n10_
      (try clear hb)
      (try clear hb2)
      (try clear hk)
      (try clear hi)
      refine hK.out _ _ ⟨(blk_cell BK264.out 0).trans rfl, (blk_cell BK264.out 1).trans rfl, (blk_cell BK264.out 2).trans rfl, (blk_cell BK264.out 3).trans rfl, (blk_cell BK264.out 4).trans rfl, (blk_cell BK264.out 5).trans rfl, (blk_cell BK265.out 0).trans rfl, (blk_cell BK265.out 1).trans rfl, (blk_cell BK265.out 2).trans rfl, (blk_cell BK265.out 3).trans rfl, (blk_cell BK265.out 4).trans rfl, (blk_cell BK265.out 5).trans rfl⟩ (fun hHeld => ?_)
      clear hK K
      refine norm_ (a' := ?_) ?_ ?_
      rotate_left
      ·show Act.put _ (some 24) _ = _
       simp only [Act.put, List.setIfInBounds_toArray, List.set_cons_zero, List.set_cons_succ, i64_w, i32_w]
       rfl
      refine pure_ (i := 5) (N := some 6) (v := ?_) (a' := ?_) #[true, true, true, true, true, true] rfl rfl (by kernel_rfl) (fun _ _ _ h => h) (Or.inl ⟨by rfl, ?_⟩) ?_ ?_
      rotate_left
      ·intro w'
       go_simp
       with_reducible rfl
      rotate_left
      ·simp only [Act.put, List.setIfInBounds_toArray, List.set_cons_zero, List.set_cons_succ, i64_w, i32_w]
       rfl
      refine done_ (by kernel_rfl) ?_
      have hnb42 := NB264_265.out
      have hnc42 := NB265_264.out
      have hcz43_0 : w41.cell? ⟨gb264, 0, none⟩ = some (.slice A0_0 l0_0.length c0_0) := (blk_cell BK264.out 0).trans rfl
      have hcz43_1 : w41.cell? ⟨gb264, 1, none⟩ = some (.int .i64 a0_1) := (blk_cell BK264.out 1).trans rfl
      have hcz43_2 : w41.cell? ⟨gb264, 2, none⟩ = some (.int .i64 a0_2) := (blk_cell BK264.out 2).trans rfl
      have hcz43_3 : w41.cell? ⟨gb264, 3, none⟩ = some (.slice A0_3 l0_3.length c0_3) := (blk_cell BK264.out 3).trans rfl
      have hcz43_4 : w41.cell? ⟨gb264, 4, none⟩ = some (.slice A0_4 l0_4.length c0_4) := (blk_cell BK264.out 4).trans rfl
      have hcz43_5 : w41.cell? ⟨gb264, 5, none⟩ = some (.slice A0_5 l0_5.length c0_5) := (blk_cell BK264.out 5).trans rfl
      have hfz43_0 := blk_frozen BK264.out 0
      have hfz43_1 := blk_frozen BK264.out 1
      have hfz43_2 := blk_frozen BK264.out 2
      have hfz43_3 := blk_frozen BK264.out 3
      have hfz43_4 := blk_frozen BK264.out 4
      have hfz43_5 := blk_frozen BK264.out 5
      try go_wp2_with (first | ((with_reducible refine gate_callee (f := 49) rfl ?_); refine goesL_ (some 26) rfl rfl Try.func49 (by kernel_rfl) rfl #[.agg #[.slice A0_0 l0_0.length c0_0, .int .i64 a0_1, .int .i64 a0_2, .slice A0_3 l0_3.length c0_3, .slice A0_4 l0_4.length c0_4, .slice A0_5 l0_5.length c0_5]] rfl (by (try simp only [List.map_toArray, List.map_cons, List.map_nil]); first | done | rfl | (simp only [List.length_drop, List.length_take]; rfl)) ?_; (with_reducible refine (laws_toProof.calls k _ _ l0_0 a0_1 a0_2 _ _ l0_3 _ _ l0_4 _ _ l0_5 t297 t300 t301 t302 t305 t308 _ ?side1 ?side2 ?side3 ?side4 ?side5 ?side6 ?side7 ?side8 A20.out).mono ?_); (case side1 => repeat (first | exact (Kd.C_below HR0_0.out HB.out) | (with_reducible refine Kd.C_alloc ?_ _) | (with_reducible refine Kd.C_drewN ?_ _) | (with_reducible refine Kd.C_drew ?_))); (case side2 => exact HC0_0.out); (case side3 => repeat (first | exact (Kd.C_below HR0_3.out HB.out) | (with_reducible refine Kd.C_alloc ?_ _) | (with_reducible refine Kd.C_drewN ?_ _) | (with_reducible refine Kd.C_drew ?_))); (case side4 => exact HC0_3.out); (case side5 => repeat (first | exact (Kd.C_below HR0_4.out HB.out) | (with_reducible refine Kd.C_alloc ?_ _) | (with_reducible refine Kd.C_drewN ?_ _) | (with_reducible refine Kd.C_drew ?_))); (case side6 => exact HC0_4.out); (case side7 => repeat (first | exact (Kd.C_below HR0_5.out HB.out) | (with_reducible refine Kd.C_alloc ?_ _) | (with_reducible refine Kd.C_drewN ?_ _) | (with_reducible refine Kd.C_drew ?_))); (case side8 => exact HC0_5.out); rintro e w44 ⟨v298, v303, v306, v309, rfl, ho0, ho1, ho2, ho3, hb⟩; refine ⟨_, rfl, ?_⟩; have n0_ := Aside0.mk (Kd.R_mono (Kd.R_told (Kd.R_told (Kd.R_told (Kd.R_told (Kd.R_old (Kd.R_mv HO270) hb) (Kd.R_base ho0)) (Kd.R_base ho1)) (Kd.R_base ho2)) (Kd.S_base ho3)) (fun _ h_ => h_.1)); have n1_ := Aside0.mk (Kd.R_mono (Kd.R_told (Kd.R_told (Kd.R_old (Kd.R_mv HO275) hb) (Kd.R_base ho1)) (Kd.R_base ho2)) (fun _ h_ => h_.1)); have n2_ := Aside0.mk (Kd.R_mono (Kd.R_told (Kd.R_told (Kd.R_old (Kd.R_mv HO278) hb) (Kd.R_base ho1)) (Kd.R_base ho2)) (fun _ h_ => h_.1)); have n3_ := Aside0.mk (Kd.S_mono (Kd.S_told (Kd.S_told (Kd.S_told (Kd.S_old (Kd.S_mv HO281) hb) (Kd.R_base ho1)) (Kd.R_base ho2)) (Kd.S_base ho3)) (fun _ h_ => h_.1)); have n4_ := Aside0.mk (Kd.R_mono (Kd.R_told (Kd.R_told (Kd.R_told (Kd.R_told (Kd.R_old (Kd.R_mv HO284) hb) (Kd.R_base ho0)) (Kd.R_base ho1)) (Kd.R_base ho2)) (Kd.S_base ho3)) (fun _ h_ => h_.1)); have n5_ := Aside0.mk (Kd.R_mono (Kd.R_told (Kd.R_told (Kd.R_old (Kd.R_mv HO289) hb) (Kd.R_base ho1)) (Kd.R_base ho2)) (fun _ h_ => h_.1)); have n6_ := Aside0.mk (Kd.R_mono (Kd.R_told (Kd.R_told (Kd.R_old (Kd.R_mv HO292) hb) (Kd.R_base ho1)) (Kd.R_base ho2)) (fun _ h_ => h_.1)); have n7_ := Aside0.mk (Kd.S_mono (Kd.S_told (Kd.S_told (Kd.S_told (Kd.S_old (Kd.S_mv HO295) hb) (Kd.R_base ho1)) (Kd.R_base ho2)) (Kd.S_base ho3)) (fun _ h_ => h_.1)); have n8_ := Aside0.mk (Kd.R_lower (Kd.R_new' (Kd.R_new' (Kd.R_new' (Kd.R_new' (Kd.R_new' (Kd.R_new' (Kd.R_new' (Kd.R_new' ho0 (Kd.R_lt (Kd.R_mv HO270))) (Kd.R_lt (Kd.R_mv HO275))) (Kd.R_lt (Kd.R_mv HO278))) (Kd.S_lt (Kd.S_mv HO281))) (Kd.R_lt (Kd.R_mv HO284))) (Kd.R_lt (Kd.R_mv HO289))) (Kd.R_lt (Kd.R_mv HO292))) (Kd.S_lt (Kd.S_mv HO295))) (below_size (by repeat (first | (with_reducible first | exact HB.out | apply below_alloc | apply pw_below_drewN | apply below_drew1 | refine below_set ?_ GE264.out | refine below_set ?_ GE265.out) | exact HB.out)))); have n9_ := Aside0.mk (Kd.R_lower (Kd.R_new' (Kd.R_new' (Kd.R_new' (Kd.R_new' ho1 (Kd.R_lt (Kd.R_mv HO275))) (Kd.R_lt (Kd.R_mv HO278))) (Kd.R_lt (Kd.R_mv HO289))) (Kd.R_lt (Kd.R_mv HO292))) (below_size (by repeat (first | (with_reducible first | exact HB.out | apply below_alloc | apply pw_below_drewN | apply below_drew1 | refine below_set ?_ GE264.out | refine below_set ?_ GE265.out) | exact HB.out)))); have n10_ := Aside0.mk (Kd.R_lower (Kd.R_new' (Kd.R_new' (Kd.R_new' (Kd.R_new' ho2 (Kd.R_lt (Kd.R_mv HO275))) (Kd.R_lt (Kd.R_mv HO278))) (Kd.R_lt (Kd.R_mv HO289))) (Kd.R_lt (Kd.R_mv HO292))) (below_size (by repeat (first | (with_reducible first | exact HB.out | apply below_alloc | apply pw_below_drewN | apply below_drew1 | refine below_set ?_ GE264.out | refine below_set ?_ GE265.out) | exact HB.out)))); have n11_ := Aside0.mk (Kd.S_lower (Kd.S_new' (Kd.S_new' (Kd.S_new' (Kd.S_new' (Kd.S_new' (Kd.S_new' ho3 (Kd.R_lt (Kd.R_mv HO275))) (Kd.R_lt (Kd.R_mv HO278))) (Kd.S_lt (Kd.S_mv HO281))) (Kd.R_lt (Kd.R_mv HO289))) (Kd.R_lt (Kd.R_mv HO292))) (Kd.S_lt (Kd.S_mv HO295))) (below_size (by repeat (first | (with_reducible first | exact HB.out | apply below_alloc | apply pw_below_drewN | apply below_drew1 | refine below_set ?_ GE264.out | refine below_set ?_ GE265.out) | exact HB.out)))); have n12_ := Aside0.mk (blk_below (g := gb264) (o := .cells #[.slice A0_0 l0_0.length c0_0, .int .i64 a0_1, .int .i64 a0_2, .slice A0_3 l0_3.length c0_3, .slice A0_4 l0_4.length c0_4, .slice A0_5 l0_5.length c0_5] 79 (0, 0)) (blk_mv BK264) hb); have n13_ := Aside0.mk (blk_below (g := gb265) (o := .cells #[.slice A1_0 l1_0.length c1_0, .int .i64 a1_1, .int .i64 a1_2, .slice A1_3 l1_3.length c1_3, .slice A1_4 l1_4.length c1_4, .slice A1_5 l1_5.length c1_5] 79 (0, 0)) (blk_mv BK265) hb); have n14_ := Aside0.mk (below_step (by repeat (first | (with_reducible first | exact HB.out | apply below_alloc | apply pw_below_drewN | apply below_drew1 | refine below_set ?_ GE264.out | refine below_set ?_ GE265.out) | exact HB.out)) hb); clear HO270; clear HO275; clear HO278; clear HO281; clear HO284; clear HO289; clear HO292; clear HO295; clear BK264; clear BK265; clear HB; have HO270 := n0_; have HO275 := n1_; have HO278 := n2_; have HO281 := n3_; have HO284 := n4_; have HO289 := n5_; have HO292 := n6_; have HO295 := n7_; have HO299 := n8_; have HO304 := n9_; have HO307 := n10_; have HO310 := n11_; have BK264 := n12_; have BK265 := n13_; have HB := n14_; clear n0_ n1_ n2_ n3_ n4_ n5_ n6_ n7_ n8_ n9_ n10_ n11_ n12_ n13_ n14_; (try clear hb); (try clear hb2); (try clear hk); (try clear hi); (try clear ho0); (try clear ho1); (try clear ho2); (try clear ho3)) | ((with_reducible refine gate_dst (N := 7) rfl ?_); refine box_event ?hg (N := 7) ?hd (cs := #[.slice none 0 0, .int .i64 0, .int .i64 0, .slice none 0 0, .slice none 0 0, .slice none 0 0]) (t := 84) ?hr ?_; (case hd => rfl); (case hg => rfl); (case hr => first | (go_simp; done) | (go_simp; rfl)); intro gb311 hg w45 hbox hb; have n0_ := Aside0.mk (Kd.R_below (Kd.R_mv HO270) hb); have n1_ := Aside0.mk (Kd.R_below (Kd.R_mv HO275) hb); have n2_ := Aside0.mk (Kd.R_below (Kd.R_mv HO278) hb); have n3_ := Aside0.mk (Kd.S_below (Kd.S_mv HO281) hb); have n4_ := Aside0.mk (Kd.R_below (Kd.R_mv HO284) hb); have n5_ := Aside0.mk (Kd.R_below (Kd.R_mv HO289) hb); have n6_ := Aside0.mk (Kd.R_below (Kd.R_mv HO292) hb); have n7_ := Aside0.mk (Kd.S_below (Kd.S_mv HO295) hb); have n8_ := Aside0.mk (Kd.R_below (Kd.R_mv HO299) hb); have n9_ := Aside0.mk (Kd.R_below (Kd.R_mv HO304) hb); have n10_ := Aside0.mk (Kd.R_below (Kd.R_mv HO307) hb); have n11_ := Aside0.mk (Kd.S_below (Kd.S_mv HO310) hb); have n12_ := Aside0.mk (blk_below (g := gb264) (o := .cells #[.slice A0_0 l0_0.length c0_0, .int .i64 a0_1, .int .i64 a0_2, .slice A0_3 l0_3.length c0_3, .slice A0_4 l0_4.length c0_4, .slice A0_5 l0_5.length c0_5] 79 (0, 0)) (blk_mv BK264) hb); have n13_ := Aside0.mk (blk_below (g := gb265) (o := .cells #[.slice A1_0 l1_0.length c1_0, .int .i64 a1_1, .int .i64 a1_2, .slice A1_3 l1_3.length c1_3, .slice A1_4 l1_4.length c1_4, .slice A1_5 l1_5.length c1_5] 79 (0, 0)) (blk_mv BK265) hb); have n14_ := Aside0.mk (below_step (by repeat (first | (with_reducible first | exact HB.out | apply below_alloc | apply pw_below_drewN | apply below_drew1 | refine below_set ?_ GE264.out | refine below_set ?_ GE265.out) | exact HB.out)) hb); have n15_ := Aside0.mk (hbox); have n16_ := Aside0.mk ((by rw [hg]; exact (below_size (by repeat (first | (with_reducible first | exact HB.out | apply below_alloc | apply pw_below_drewN | apply below_drew1 | refine below_set ?_ GE264.out | refine below_set ?_ GE265.out) | exact HB.out))) : w.heap.size ≤ gb311)); have n17_ := Aside0.mk ((by rw [hg]; exact (below_size (by repeat (first | (with_reducible first | exact HB.out | apply below_alloc | apply pw_below_drewN | apply below_drew1 | refine below_set ?_ GE264.out | refine below_set ?_ GE265.out) | exact HB.out))) : w.heap.size ≤ gb311)); have n18_ := Aside0.mk ((by rw [hg]; exact Nat.ne_of_lt (blk_lt (g := gb264) (o := .cells #[.slice A0_0 l0_0.length c0_0, .int .i64 a0_1, .int .i64 a0_2, .slice A0_3 l0_3.length c0_3, .slice A0_4 l0_4.length c0_4, .slice A0_5 l0_5.length c0_5] 79 (0, 0)) (blk_mv BK264)) : gb264 ≠ gb311)); have n19_ := Aside0.mk ((by rw [hg]; exact Nat.ne_of_gt (blk_lt (g := gb264) (o := .cells #[.slice A0_0 l0_0.length c0_0, .int .i64 a0_1, .int .i64 a0_2, .slice A0_3 l0_3.length c0_3, .slice A0_4 l0_4.length c0_4, .slice A0_5 l0_5.length c0_5] 79 (0, 0)) (blk_mv BK264)) : gb311 ≠ gb264)); have n20_ := Aside0.mk ((by rw [hg]; exact Nat.ne_of_lt (blk_lt (g := gb265) (o := .cells #[.slice A1_0 l1_0.length c1_0, .int .i64 a1_1, .int .i64 a1_2, .slice A1_3 l1_3.length c1_3, .slice A1_4 l1_4.length c1_4, .slice A1_5 l1_5.length c1_5] 79 (0, 0)) (blk_mv BK265)) : gb265 ≠ gb311)); have n21_ := Aside0.mk ((by rw [hg]; exact Nat.ne_of_gt (blk_lt (g := gb265) (o := .cells #[.slice A1_0 l1_0.length c1_0, .int .i64 a1_1, .int .i64 a1_2, .slice A1_3 l1_3.length c1_3, .slice A1_4 l1_4.length c1_4, .slice A1_5 l1_5.length c1_5] 79 (0, 0)) (blk_mv BK265)) : gb311 ≠ gb265)); clear HO270; clear HO275; clear HO278; clear HO281; clear HO284; clear HO289; clear HO292; clear HO295; clear HO299; clear HO304; clear HO307; clear HO310; clear BK264; clear BK265; clear HB; have HO270 := n0_; have HO275 := n1_; have HO278 := n2_; have HO281 := n3_; have HO284 := n4_; have HO289 := n5_; have HO292 := n6_; have HO295 := n7_; have HO299 := n8_; have HO304 := n9_; have HO307 := n10_; have HO310 := n11_; have BK264 := n12_; have BK265 := n13_; have HB := n14_; have BK311 := n15_; have GW311 := n16_; have GE311 := n17_; have NB264_311 := n18_; have NB311_264 := n19_; have NB265_311 := n20_; have NB311_265 := n21_; clear n0_ n1_ n2_ n3_ n4_ n5_ n6_ n7_ n8_ n9_ n10_ n11_ n12_ n13_ n14_ n15_ n16_ n17_ n18_ n19_ n20_ n21_; clear hb hbox hg; obtain ⟨Ao46, co46, eo46⟩ := Kd.R_slice HO299.out; subst eo46; have hnb47 := NB311_264.out; have hnc47 := NB264_311.out; have hnb48 := NB311_265.out; have hnc48 := NB265_311.out; have hcz49_0 : w45.cell? ⟨gb311, 0, none⟩ = some (.slice none 0 0) := (blk_cell BK311.out 0).trans rfl; have hcz49_1 : w45.cell? ⟨gb311, 1, none⟩ = some (.int .i64 0) := (blk_cell BK311.out 1).trans rfl; have hcz49_2 : w45.cell? ⟨gb311, 2, none⟩ = some (.int .i64 0) := (blk_cell BK311.out 2).trans rfl; have hcz49_3 : w45.cell? ⟨gb311, 3, none⟩ = some (.slice none 0 0) := (blk_cell BK311.out 3).trans rfl; have hcz49_4 : w45.cell? ⟨gb311, 4, none⟩ = some (.slice none 0 0) := (blk_cell BK311.out 4).trans rfl; have hcz49_5 : w45.cell? ⟨gb311, 5, none⟩ = some (.slice none 0 0) := (blk_cell BK311.out 5).trans rfl; have hfz49_0 := blk_frozen BK311.out 0; have hfz49_1 := blk_frozen BK311.out 1; have hfz49_2 := blk_frozen BK311.out 2; have hfz49_3 := blk_frozen BK311.out 3; have hfz49_4 := blk_frozen BK311.out 4; have hfz49_5 := blk_frozen BK311.out 5; obtain ⟨Ao50, co50, eo50⟩ := Kd.R_slice HO304.out; subst eo50; obtain ⟨Ao51, co51, eo51⟩ := Kd.R_slice HO307.out; subst eo51; obtain ⟨Ao52, co52, eo52⟩ := Kd.S_slice HO310.out; subst eo52; have hcz53_0 : w45.cell? ⟨gb265, 0, none⟩ = some (.slice A1_0 l1_0.length c1_0) := (blk_cell BK265.out 0).trans rfl; have hcz53_1 : w45.cell? ⟨gb265, 1, none⟩ = some (.int .i64 a1_1) := (blk_cell BK265.out 1).trans rfl; have hcz53_2 : w45.cell? ⟨gb265, 2, none⟩ = some (.int .i64 a1_2) := (blk_cell BK265.out 2).trans rfl; have hcz53_3 : w45.cell? ⟨gb265, 3, none⟩ = some (.slice A1_3 l1_3.length c1_3) := (blk_cell BK265.out 3).trans rfl; have hcz53_4 : w45.cell? ⟨gb265, 4, none⟩ = some (.slice A1_4 l1_4.length c1_4) := (blk_cell BK265.out 4).trans rfl; have hcz53_5 : w45.cell? ⟨gb265, 5, none⟩ = some (.slice A1_5 l1_5.length c1_5) := (blk_cell BK265.out 5).trans rfl; have hfz53_0 := blk_frozen BK265.out 0; have hfz53_1 := blk_frozen BK265.out 1; have hfz53_2 := blk_frozen BK265.out 2; have hfz53_3 := blk_frozen BK265.out 3; have hfz53_4 := blk_frozen BK265.out 4; have hfz53_5 := blk_frozen BK265.out 5) | ((with_reducible refine gate_callee (f := 49) rfl ?_); refine goesL_ (some 28) rfl rfl Try.func49 (by kernel_rfl) rfl #[.agg #[.slice A1_0 l1_0.length c1_0, .int .i64 a1_1, .int .i64 a1_2, .slice A1_3 l1_3.length c1_3, .slice A1_4 l1_4.length c1_4, .slice A1_5 l1_5.length c1_5]] rfl (by (try simp only [List.map_toArray, List.map_cons, List.map_nil]); first | done | rfl | (simp only [List.length_drop, List.length_take]; rfl)) ?_; (with_reducible refine (laws_toProof.calls k _ _ l1_0 a1_1 a1_2 _ _ l1_3 _ _ l1_4 _ _ l1_5 t312 t315 t316 t317 t320 t323 _ ?side1 ?side2 ?side3 ?side4 ?side5 ?side6 ?side7 ?side8 A21.out).mono ?_); (case side1 => exact Kd.C_below HR1_0.out (by repeat (first | (with_reducible first | exact HB.out | apply below_alloc | apply pw_below_drewN | apply below_drew1 | refine below_set ?_ GE264.out | refine below_set ?_ GE265.out | refine below_set ?_ GE311.out) | exact HB.out))); (case side2 => exact HC1_0.out); (case side3 => exact Kd.C_below HR1_3.out (by repeat (first | (with_reducible first | exact HB.out | apply below_alloc | apply pw_below_drewN | apply below_drew1 | refine below_set ?_ GE264.out | refine below_set ?_ GE265.out | refine below_set ?_ GE311.out) | exact HB.out))); (case side4 => exact HC1_3.out); (case side5 => exact Kd.C_below HR1_4.out (by repeat (first | (with_reducible first | exact HB.out | apply below_alloc | apply pw_below_drewN | apply below_drew1 | refine below_set ?_ GE264.out | refine below_set ?_ GE265.out | refine below_set ?_ GE311.out) | exact HB.out))); (case side6 => exact HC1_4.out); (case side7 => exact Kd.C_below HR1_5.out (by repeat (first | (with_reducible first | exact HB.out | apply below_alloc | apply pw_below_drewN | apply below_drew1 | refine below_set ?_ GE264.out | refine below_set ?_ GE265.out | refine below_set ?_ GE311.out) | exact HB.out))); (case side8 => exact HC1_5.out); rintro e w54 ⟨v313, v318, v321, v324, rfl, ho0, ho1, ho2, ho3, hb⟩; refine ⟨_, rfl, ?_⟩; have n0_ := Aside0.mk (Kd.R_mono (Kd.R_told (Kd.R_told (Kd.R_told (Kd.R_told (Kd.R_old (by (with_reducible repeat (first | apply Kd.R_alloc | apply Kd.R_drewN | apply Kd.R_drew)); exact (Kd.R_mono (Kd.R_fars (Kd.R_types HO270.out BK311.out (by decide)) (fun _ hk => hk.2)) (fun _ h_ => h_.1))) hb) (Kd.R_base ho0)) (Kd.R_base ho1)) (Kd.R_base ho2)) (Kd.S_base ho3)) (fun _ h_ => h_.1)); have n1_ := Aside0.mk (Kd.R_mono (Kd.R_told (Kd.R_told (Kd.R_old (by (with_reducible repeat (first | apply Kd.R_alloc | apply Kd.R_drewN | apply Kd.R_drew)); exact (Kd.R_mono (Kd.R_fars (Kd.R_types HO275.out BK311.out (by decide)) (fun _ hk => hk.2)) (fun _ h_ => h_.1))) hb) (Kd.R_base ho1)) (Kd.R_base ho2)) (fun _ h_ => h_.1)); have n2_ := Aside0.mk (Kd.R_mono (Kd.R_told (Kd.R_told (Kd.R_old (by (with_reducible repeat (first | apply Kd.R_alloc | apply Kd.R_drewN | apply Kd.R_drew)); exact (Kd.R_mono (Kd.R_fars (Kd.R_types HO278.out BK311.out (by decide)) (fun _ hk => hk.2)) (fun _ h_ => h_.1))) hb) (Kd.R_base ho1)) (Kd.R_base ho2)) (fun _ h_ => h_.1)); have n3_ := Aside0.mk (Kd.S_mono (Kd.S_told (Kd.S_told (Kd.S_told (Kd.S_old (by (with_reducible repeat (first | apply Kd.S_alloc | apply Kd.S_drewN | apply Kd.S_drew)); exact (Kd.S_mono (Kd.S_fars (Kd.S_types HO281.out BK311.out (by decide)) (fun _ hk => hk.2)) (fun _ h_ => h_.1))) hb) (Kd.R_base ho1)) (Kd.R_base ho2)) (Kd.S_base ho3)) (fun _ h_ => h_.1)); have n4_ := Aside0.mk (Kd.R_mono (Kd.R_told (Kd.R_told (Kd.R_told (Kd.R_told (Kd.R_old (by (with_reducible repeat (first | apply Kd.R_alloc | apply Kd.R_drewN | apply Kd.R_drew)); exact (Kd.R_mono (Kd.R_fars (Kd.R_types HO284.out BK311.out (by decide)) (fun _ hk => hk.2)) (fun _ h_ => h_.1))) hb) (Kd.R_base ho0)) (Kd.R_base ho1)) (Kd.R_base ho2)) (Kd.S_base ho3)) (fun _ h_ => h_.1)); have n5_ := Aside0.mk (Kd.R_mono (Kd.R_told (Kd.R_told (Kd.R_old (by (with_reducible repeat (first | apply Kd.R_alloc | apply Kd.R_drewN | apply Kd.R_drew)); exact (Kd.R_mono (Kd.R_fars (Kd.R_types HO289.out BK311.out (by decide)) (fun _ hk => hk.2)) (fun _ h_ => h_.1))) hb) (Kd.R_base ho1)) (Kd.R_base ho2)) (fun _ h_ => h_.1)); have n6_ := Aside0.mk (Kd.R_mono (Kd.R_told (Kd.R_told (Kd.R_old (by (with_reducible repeat (first | apply Kd.R_alloc | apply Kd.R_drewN | apply Kd.R_drew)); exact (Kd.R_mono (Kd.R_fars (Kd.R_types HO292.out BK311.out (by decide)) (fun _ hk => hk.2)) (fun _ h_ => h_.1))) hb) (Kd.R_base ho1)) (Kd.R_base ho2)) (fun _ h_ => h_.1)); have n7_ := Aside0.mk (Kd.S_mono (Kd.S_told (Kd.S_told (Kd.S_told (Kd.S_old (by (with_reducible repeat (first | apply Kd.S_alloc | apply Kd.S_drewN | apply Kd.S_drew)); exact (Kd.S_mono (Kd.S_fars (Kd.S_types HO295.out BK311.out (by decide)) (fun _ hk => hk.2)) (fun _ h_ => h_.1))) hb) (Kd.R_base ho1)) (Kd.R_base ho2)) (Kd.S_base ho3)) (fun _ h_ => h_.1)); have n8_ := Aside0.mk (Kd.R_mono (Kd.R_told (Kd.R_told (Kd.R_told (Kd.R_told (Kd.R_old (by (with_reducible repeat (first | apply Kd.R_alloc | apply Kd.R_drewN | apply Kd.R_drew)); exact (Kd.R_mono (Kd.R_fars (Kd.R_types HO299.out BK311.out (by decide)) (fun _ hk => hk.2)) (fun _ h_ => h_.1))) hb) (Kd.R_base ho0)) (Kd.R_base ho1)) (Kd.R_base ho2)) (Kd.S_base ho3)) (fun _ h_ => h_.1)); have n9_ := Aside0.mk (Kd.R_mono (Kd.R_told (Kd.R_told (Kd.R_old (by (with_reducible repeat (first | apply Kd.R_alloc | apply Kd.R_drewN | apply Kd.R_drew)); exact (Kd.R_mono (Kd.R_fars (Kd.R_types HO304.out BK311.out (by decide)) (fun _ hk => hk.2)) (fun _ h_ => h_.1))) hb) (Kd.R_base ho1)) (Kd.R_base ho2)) (fun _ h_ => h_.1)); have n10_ := Aside0.mk (Kd.R_mono (Kd.R_told (Kd.R_told (Kd.R_old (by (with_reducible repeat (first | apply Kd.R_alloc | apply Kd.R_drewN | apply Kd.R_drew)); exact (Kd.R_mono (Kd.R_fars (Kd.R_types HO307.out BK311.out (by decide)) (fun _ hk => hk.2)) (fun _ h_ => h_.1))) hb) (Kd.R_base ho1)) (Kd.R_base ho2)) (fun _ h_ => h_.1)); have n11_ := Aside0.mk (Kd.S_mono (Kd.S_told (Kd.S_told (Kd.S_told (Kd.S_old (by (with_reducible repeat (first | apply Kd.S_alloc | apply Kd.S_drewN | apply Kd.S_drew)); exact (Kd.S_mono (Kd.S_fars (Kd.S_types HO310.out BK311.out (by decide)) (fun _ hk => hk.2)) (fun _ h_ => h_.1))) hb) (Kd.R_base ho1)) (Kd.R_base ho2)) (Kd.S_base ho3)) (fun _ h_ => h_.1)); have n12_ := Aside0.mk (Kd.R_lower (Kd.R_new' (Kd.R_new' (Kd.R_new' (Kd.R_new' (Kd.R_new' (Kd.R_new' (Kd.R_new' (Kd.R_new' (Kd.R_new' (Kd.R_new' (Kd.R_new' (Kd.R_new' ho0 (Kd.R_lt (by (with_reducible repeat (first | apply Kd.R_alloc | apply Kd.R_drewN | apply Kd.R_drew)); exact (Kd.R_mono (Kd.R_fars (Kd.R_types HO270.out BK311.out (by decide)) (fun _ hk => hk.2)) (fun _ h_ => h_.1))))) (Kd.R_lt (by (with_reducible repeat (first | apply Kd.R_alloc | apply Kd.R_drewN | apply Kd.R_drew)); exact (Kd.R_mono (Kd.R_fars (Kd.R_types HO275.out BK311.out (by decide)) (fun _ hk => hk.2)) (fun _ h_ => h_.1))))) (Kd.R_lt (by (with_reducible repeat (first | apply Kd.R_alloc | apply Kd.R_drewN | apply Kd.R_drew)); exact (Kd.R_mono (Kd.R_fars (Kd.R_types HO278.out BK311.out (by decide)) (fun _ hk => hk.2)) (fun _ h_ => h_.1))))) (Kd.S_lt (by (with_reducible repeat (first | apply Kd.S_alloc | apply Kd.S_drewN | apply Kd.S_drew)); exact (Kd.S_mono (Kd.S_fars (Kd.S_types HO281.out BK311.out (by decide)) (fun _ hk => hk.2)) (fun _ h_ => h_.1))))) (Kd.R_lt (by (with_reducible repeat (first | apply Kd.R_alloc | apply Kd.R_drewN | apply Kd.R_drew)); exact (Kd.R_mono (Kd.R_fars (Kd.R_types HO284.out BK311.out (by decide)) (fun _ hk => hk.2)) (fun _ h_ => h_.1))))) (Kd.R_lt (by (with_reducible repeat (first | apply Kd.R_alloc | apply Kd.R_drewN | apply Kd.R_drew)); exact (Kd.R_mono (Kd.R_fars (Kd.R_types HO289.out BK311.out (by decide)) (fun _ hk => hk.2)) (fun _ h_ => h_.1))))) (Kd.R_lt (by (with_reducible repeat (first | apply Kd.R_alloc | apply Kd.R_drewN | apply Kd.R_drew)); exact (Kd.R_mono (Kd.R_fars (Kd.R_types HO292.out BK311.out (by decide)) (fun _ hk => hk.2)) (fun _ h_ => h_.1))))) (Kd.S_lt (by (with_reducible repeat (first | apply Kd.S_alloc | apply Kd.S_drewN | apply Kd.S_drew)); exact (Kd.S_mono (Kd.S_fars (Kd.S_types HO295.out BK311.out (by decide)) (fun _ hk => hk.2)) (fun _ h_ => h_.1))))) (Kd.R_lt (by (with_reducible repeat (first | apply Kd.R_alloc | apply Kd.R_drewN | apply Kd.R_drew)); exact (Kd.R_mono (Kd.R_fars (Kd.R_types HO299.out BK311.out (by decide)) (fun _ hk => hk.2)) (fun _ h_ => h_.1))))) (Kd.R_lt (by (with_reducible repeat (first | apply Kd.R_alloc | apply Kd.R_drewN | apply Kd.R_drew)); exact (Kd.R_mono (Kd.R_fars (Kd.R_types HO304.out BK311.out (by decide)) (fun _ hk => hk.2)) (fun _ h_ => h_.1))))) (Kd.R_lt (by (with_reducible repeat (first | apply Kd.R_alloc | apply Kd.R_drewN | apply Kd.R_drew)); exact (Kd.R_mono (Kd.R_fars (Kd.R_types HO307.out BK311.out (by decide)) (fun _ hk => hk.2)) (fun _ h_ => h_.1))))) (Kd.S_lt (by (with_reducible repeat (first | apply Kd.S_alloc | apply Kd.S_drewN | apply Kd.S_drew)); exact (Kd.S_mono (Kd.S_fars (Kd.S_types HO310.out BK311.out (by decide)) (fun _ hk => hk.2)) (fun _ h_ => h_.1))))) (below_size (by repeat (first | (with_reducible first | exact HB.out | apply below_alloc | apply pw_below_drewN | apply below_drew1 | refine below_set ?_ GE264.out | refine below_set ?_ GE265.out | refine below_set ?_ GE311.out) | exact HB.out)))); have n13_ := Aside0.mk (Kd.R_lower (Kd.R_new' (Kd.R_new' (Kd.R_new' (Kd.R_new' (Kd.R_new' (Kd.R_new' ho1 (Kd.R_lt (by (with_reducible repeat (first | apply Kd.R_alloc | apply Kd.R_drewN | apply Kd.R_drew)); exact (Kd.R_mono (Kd.R_fars (Kd.R_types HO275.out BK311.out (by decide)) (fun _ hk => hk.2)) (fun _ h_ => h_.1))))) (Kd.R_lt (by (with_reducible repeat (first | apply Kd.R_alloc | apply Kd.R_drewN | apply Kd.R_drew)); exact (Kd.R_mono (Kd.R_fars (Kd.R_types HO278.out BK311.out (by decide)) (fun _ hk => hk.2)) (fun _ h_ => h_.1))))) (Kd.R_lt (by (with_reducible repeat (first | apply Kd.R_alloc | apply Kd.R_drewN | apply Kd.R_drew)); exact (Kd.R_mono (Kd.R_fars (Kd.R_types HO289.out BK311.out (by decide)) (fun _ hk => hk.2)) (fun _ h_ => h_.1))))) (Kd.R_lt (by (with_reducible repeat (first | apply Kd.R_alloc | apply Kd.R_drewN | apply Kd.R_drew)); exact (Kd.R_mono (Kd.R_fars (Kd.R_types HO292.out BK311.out (by decide)) (fun _ hk => hk.2)) (fun _ h_ => h_.1))))) (Kd.R_lt (by (with_reducible repeat (first | apply Kd.R_alloc | apply Kd.R_drewN | apply Kd.R_drew)); exact (Kd.R_mono (Kd.R_fars (Kd.R_types HO304.out BK311.out (by decide)) (fun _ hk => hk.2)) (fun _ h_ => h_.1))))) (Kd.R_lt (by (with_reducible repeat (first | apply Kd.R_alloc | apply Kd.R_drewN | apply Kd.R_drew)); exact (Kd.R_mono (Kd.R_fars (Kd.R_types HO307.out BK311.out (by decide)) (fun _ hk => hk.2)) (fun _ h_ => h_.1))))) (below_size (by repeat (first | (with_reducible first | exact HB.out | apply below_alloc | apply pw_below_drewN | apply below_drew1 | refine below_set ?_ GE264.out | refine below_set ?_ GE265.out | refine below_set ?_ GE311.out) | exact HB.out)))); have n14_ := Aside0.mk (Kd.R_lower (Kd.R_new' (Kd.R_new' (Kd.R_new' (Kd.R_new' (Kd.R_new' (Kd.R_new' ho2 (Kd.R_lt (by (with_reducible repeat (first | apply Kd.R_alloc | apply Kd.R_drewN | apply Kd.R_drew)); exact (Kd.R_mono (Kd.R_fars (Kd.R_types HO275.out BK311.out (by decide)) (fun _ hk => hk.2)) (fun _ h_ => h_.1))))) (Kd.R_lt (by (with_reducible repeat (first | apply Kd.R_alloc | apply Kd.R_drewN | apply Kd.R_drew)); exact (Kd.R_mono (Kd.R_fars (Kd.R_types HO278.out BK311.out (by decide)) (fun _ hk => hk.2)) (fun _ h_ => h_.1))))) (Kd.R_lt (by (with_reducible repeat (first | apply Kd.R_alloc | apply Kd.R_drewN | apply Kd.R_drew)); exact (Kd.R_mono (Kd.R_fars (Kd.R_types HO289.out BK311.out (by decide)) (fun _ hk => hk.2)) (fun _ h_ => h_.1))))) (Kd.R_lt (by (with_reducible repeat (first | apply Kd.R_alloc | apply Kd.R_drewN | apply Kd.R_drew)); exact (Kd.R_mono (Kd.R_fars (Kd.R_types HO292.out BK311.out (by decide)) (fun _ hk => hk.2)) (fun _ h_ => h_.1))))) (Kd.R_lt (by (with_reducible repeat (first | apply Kd.R_alloc | apply Kd.R_drewN | apply Kd.R_drew)); exact (Kd.R_mono (Kd.R_fars (Kd.R_types HO304.out BK311.out (by decide)) (fun _ hk => hk.2)) (fun _ h_ => h_.1))))) (Kd.R_lt (by (with_reducible repeat (first | apply Kd.R_alloc | apply Kd.R_drewN | apply Kd.R_drew)); exact (Kd.R_mono (Kd.R_fars (Kd.R_types HO307.out BK311.out (by decide)) (fun _ hk => hk.2)) (fun _ h_ => h_.1))))) (below_size (by repeat (first | (with_reducible first | exact HB.out | apply below_alloc | apply pw_below_drewN | apply below_drew1 | refine below_set ?_ GE264.out | refine below_set ?_ GE265.out | refine below_set ?_ GE311.out) | exact HB.out)))); have n15_ := Aside0.mk (Kd.S_lower (Kd.S_new' (Kd.S_new' (Kd.S_new' (Kd.S_new' (Kd.S_new' (Kd.S_new' (Kd.S_new' (Kd.S_new' (Kd.S_new' ho3 (Kd.R_lt (by (with_reducible repeat (first | apply Kd.R_alloc | apply Kd.R_drewN | apply Kd.R_drew)); exact (Kd.R_mono (Kd.R_fars (Kd.R_types HO275.out BK311.out (by decide)) (fun _ hk => hk.2)) (fun _ h_ => h_.1))))) (Kd.R_lt (by (with_reducible repeat (first | apply Kd.R_alloc | apply Kd.R_drewN | apply Kd.R_drew)); exact (Kd.R_mono (Kd.R_fars (Kd.R_types HO278.out BK311.out (by decide)) (fun _ hk => hk.2)) (fun _ h_ => h_.1))))) (Kd.S_lt (by (with_reducible repeat (first | apply Kd.S_alloc | apply Kd.S_drewN | apply Kd.S_drew)); exact (Kd.S_mono (Kd.S_fars (Kd.S_types HO281.out BK311.out (by decide)) (fun _ hk => hk.2)) (fun _ h_ => h_.1))))) (Kd.R_lt (by (with_reducible repeat (first | apply Kd.R_alloc | apply Kd.R_drewN | apply Kd.R_drew)); exact (Kd.R_mono (Kd.R_fars (Kd.R_types HO289.out BK311.out (by decide)) (fun _ hk => hk.2)) (fun _ h_ => h_.1))))) (Kd.R_lt (by (with_reducible repeat (first | apply Kd.R_alloc | apply Kd.R_drewN | apply Kd.R_drew)); exact (Kd.R_mono (Kd.R_fars (Kd.R_types HO292.out BK311.out (by decide)) (fun _ hk => hk.2)) (fun _ h_ => h_.1))))) (Kd.S_lt (by (with_reducible repeat (first | apply Kd.S_alloc | apply Kd.S_drewN | apply Kd.S_drew)); exact (Kd.S_mono (Kd.S_fars (Kd.S_types HO295.out BK311.out (by decide)) (fun _ hk => hk.2)) (fun _ h_ => h_.1))))) (Kd.R_lt (by (with_reducible repeat (first | apply Kd.R_alloc | apply Kd.R_drewN | apply Kd.R_drew)); exact (Kd.R_mono (Kd.R_fars (Kd.R_types HO304.out BK311.out (by decide)) (fun _ hk => hk.2)) (fun _ h_ => h_.1))))) (Kd.R_lt (by (with_reducible repeat (first | apply Kd.R_alloc | apply Kd.R_drewN | apply Kd.R_drew)); exact (Kd.R_mono (Kd.R_fars (Kd.R_types HO307.out BK311.out (by decide)) (fun _ hk => hk.2)) (fun _ h_ => h_.1))))) (Kd.S_lt (by (with_reducible repeat (first | apply Kd.S_alloc | apply Kd.S_drewN | apply Kd.S_drew)); exact (Kd.S_mono (Kd.S_fars (Kd.S_types HO310.out BK311.out (by decide)) (fun _ hk => hk.2)) (fun _ h_ => h_.1))))) (below_size (by repeat (first | (with_reducible first | exact HB.out | apply below_alloc | apply pw_below_drewN | apply below_drew1 | refine below_set ?_ GE264.out | refine below_set ?_ GE265.out | refine below_set ?_ GE311.out) | exact HB.out)))); have n16_ := Aside0.mk (blk_below (g := gb264) (o := .cells #[.slice A0_0 l0_0.length c0_0, .int .i64 a0_1, .int .i64 a0_2, .slice A0_3 l0_3.length c0_3, .slice A0_4 l0_4.length c0_4, .slice A0_5 l0_5.length c0_5] 79 (0, 0)) (by (with_reducible repeat (first | refine blk_drewN ?_ _ | refine blk_drew ?_ | refine blk_alloc ?_ _)); refine blk_far ?_ NB264_311.out _; (with_reducible repeat (first | refine blk_drewN ?_ _ | refine blk_drew ?_ | refine blk_alloc ?_ _)); refine blk_far ?_ NB264_311.out _; (with_reducible repeat (first | refine blk_drewN ?_ _ | refine blk_drew ?_ | refine blk_alloc ?_ _)); refine blk_far ?_ NB264_311.out _; (with_reducible repeat (first | refine blk_drewN ?_ _ | refine blk_drew ?_ | refine blk_alloc ?_ _)); refine blk_far ?_ NB264_311.out _; (with_reducible repeat (first | refine blk_drewN ?_ _ | refine blk_drew ?_ | refine blk_alloc ?_ _)); refine blk_far ?_ NB264_311.out _; (with_reducible repeat (first | refine blk_drewN ?_ _ | refine blk_drew ?_ | refine blk_alloc ?_ _)); refine blk_far ?_ NB264_311.out _; (with_reducible repeat (first | refine blk_drewN ?_ _ | refine blk_drew ?_ | refine blk_alloc ?_ _)); exact BK264.out) hb); have n17_ := Aside0.mk (blk_below (g := gb265) (o := .cells #[.slice A1_0 l1_0.length c1_0, .int .i64 a1_1, .int .i64 a1_2, .slice A1_3 l1_3.length c1_3, .slice A1_4 l1_4.length c1_4, .slice A1_5 l1_5.length c1_5] 79 (0, 0)) (by (with_reducible repeat (first | refine blk_drewN ?_ _ | refine blk_drew ?_ | refine blk_alloc ?_ _)); refine blk_far ?_ NB265_311.out _; (with_reducible repeat (first | refine blk_drewN ?_ _ | refine blk_drew ?_ | refine blk_alloc ?_ _)); refine blk_far ?_ NB265_311.out _; (with_reducible repeat (first | refine blk_drewN ?_ _ | refine blk_drew ?_ | refine blk_alloc ?_ _)); refine blk_far ?_ NB265_311.out _; (with_reducible repeat (first | refine blk_drewN ?_ _ | refine blk_drew ?_ | refine blk_alloc ?_ _)); refine blk_far ?_ NB265_311.out _; (with_reducible repeat (first | refine blk_drewN ?_ _ | refine blk_drew ?_ | refine blk_alloc ?_ _)); refine blk_far ?_ NB265_311.out _; (with_reducible repeat (first | refine blk_drewN ?_ _ | refine blk_drew ?_ | refine blk_alloc ?_ _)); refine blk_far ?_ NB265_311.out _; (with_reducible repeat (first | refine blk_drewN ?_ _ | refine blk_drew ?_ | refine blk_alloc ?_ _)); exact BK265.out) hb); have n18_ := Aside0.mk (blk_below (g := gb311) (o := .cells #[.slice Ao46 t297.length co46, .int .i64 t300, .int .i64 t301, .slice Ao50 t302.length co50, .slice Ao51 t305.length co51, .slice Ao52 t308.length co52] 84 (0, 0)) (by (with_reducible repeat (first | refine blk_drewN ?_ _ | refine blk_drew ?_ | refine blk_alloc ?_ _)); refine blk_put (cs := #[.slice Ao46 t297.length co46, .int .i64 t300, .int .i64 t301, .slice Ao50 t302.length co50, .slice Ao51 t305.length co51, .slice none 0 0]) ?_ 5 _ rfl; (with_reducible repeat (first | refine blk_drewN ?_ _ | refine blk_drew ?_ | refine blk_alloc ?_ _)); refine blk_put (cs := #[.slice Ao46 t297.length co46, .int .i64 t300, .int .i64 t301, .slice Ao50 t302.length co50, .slice none 0 0, .slice none 0 0]) ?_ 4 _ rfl; (with_reducible repeat (first | refine blk_drewN ?_ _ | refine blk_drew ?_ | refine blk_alloc ?_ _)); refine blk_put (cs := #[.slice Ao46 t297.length co46, .int .i64 t300, .int .i64 t301, .slice none 0 0, .slice none 0 0, .slice none 0 0]) ?_ 3 _ rfl; (with_reducible repeat (first | refine blk_drewN ?_ _ | refine blk_drew ?_ | refine blk_alloc ?_ _)); refine blk_put (cs := #[.slice Ao46 t297.length co46, .int .i64 t300, .int .i64 0, .slice none 0 0, .slice none 0 0, .slice none 0 0]) ?_ 2 _ rfl; (with_reducible repeat (first | refine blk_drewN ?_ _ | refine blk_drew ?_ | refine blk_alloc ?_ _)); refine blk_put (cs := #[.slice Ao46 t297.length co46, .int .i64 0, .int .i64 0, .slice none 0 0, .slice none 0 0, .slice none 0 0]) ?_ 1 _ rfl; (with_reducible repeat (first | refine blk_drewN ?_ _ | refine blk_drew ?_ | refine blk_alloc ?_ _)); refine blk_put (cs := #[.slice none 0 0, .int .i64 0, .int .i64 0, .slice none 0 0, .slice none 0 0, .slice none 0 0]) ?_ 0 _ rfl; (with_reducible repeat (first | refine blk_drewN ?_ _ | refine blk_drew ?_ | refine blk_alloc ?_ _)); exact BK311.out) hb); have n19_ := Aside0.mk (below_step (by repeat (first | (with_reducible first | exact HB.out | apply below_alloc | apply pw_below_drewN | apply below_drew1 | refine below_set ?_ GE264.out | refine below_set ?_ GE265.out | refine below_set ?_ GE311.out) | exact HB.out)) hb); clear HO270; clear HO275; clear HO278; clear HO281; clear HO284; clear HO289; clear HO292; clear HO295; clear HO299; clear HO304; clear HO307; clear HO310; clear BK264; clear BK265; clear BK311; clear HB; have HO270 := n0_; have HO275 := n1_; have HO278 := n2_; have HO281 := n3_; have HO284 := n4_; have HO289 := n5_; have HO292 := n6_; have HO295 := n7_; have HO299 := n8_; have HO304 := n9_; have HO307 := n10_; have HO310 := n11_; have HO314 := n12_; have HO319 := n13_; have HO322 := n14_; have HO325 := n15_; have BK264 := n16_; have BK265 := n17_; have BK311 := n18_; have HB := n19_; clear n0_ n1_ n2_ n3_ n4_ n5_ n6_ n7_ n8_ n9_ n10_ n11_ n12_ n13_ n14_ n15_ n16_ n17_ n18_ n19_; (try clear hb); (try clear hb2); (try clear hk); (try clear hi); (try clear ho0); (try clear ho1); (try clear ho2); (try clear ho3)) | ((with_reducible refine gate_dst (N := 8) rfl ?_); refine box_event ?hg (N := 8) ?hd (cs := #[.slice none 0 0, .int .i64 0, .int .i64 0, .slice none 0 0, .slice none 0 0, .slice none 0 0]) (t := 84) ?hr ?_; (case hd => rfl); (case hg => rfl); (case hr => first | (go_simp; done) | (go_simp; rfl)); intro gb326 hg w55 hbox hb; have n0_ := Aside0.mk (Kd.R_below (Kd.R_mv HO270) hb); have n1_ := Aside0.mk (Kd.R_below (Kd.R_mv HO275) hb); have n2_ := Aside0.mk (Kd.R_below (Kd.R_mv HO278) hb); have n3_ := Aside0.mk (Kd.S_below (Kd.S_mv HO281) hb); have n4_ := Aside0.mk (Kd.R_below (Kd.R_mv HO284) hb); have n5_ := Aside0.mk (Kd.R_below (Kd.R_mv HO289) hb); have n6_ := Aside0.mk (Kd.R_below (Kd.R_mv HO292) hb); have n7_ := Aside0.mk (Kd.S_below (Kd.S_mv HO295) hb); have n8_ := Aside0.mk (Kd.R_below (Kd.R_mv HO299) hb); have n9_ := Aside0.mk (Kd.R_below (Kd.R_mv HO304) hb); have n10_ := Aside0.mk (Kd.R_below (Kd.R_mv HO307) hb); have n11_ := Aside0.mk (Kd.S_below (Kd.S_mv HO310) hb); have n12_ := Aside0.mk (Kd.R_below (Kd.R_mv HO314) hb); have n13_ := Aside0.mk (Kd.R_below (Kd.R_mv HO319) hb); have n14_ := Aside0.mk (Kd.R_below (Kd.R_mv HO322) hb); have n15_ := Aside0.mk (Kd.S_below (Kd.S_mv HO325) hb); have n16_ := Aside0.mk (blk_below (g := gb264) (o := .cells #[.slice A0_0 l0_0.length c0_0, .int .i64 a0_1, .int .i64 a0_2, .slice A0_3 l0_3.length c0_3, .slice A0_4 l0_4.length c0_4, .slice A0_5 l0_5.length c0_5] 79 (0, 0)) (blk_mv BK264) hb); have n17_ := Aside0.mk (blk_below (g := gb265) (o := .cells #[.slice A1_0 l1_0.length c1_0, .int .i64 a1_1, .int .i64 a1_2, .slice A1_3 l1_3.length c1_3, .slice A1_4 l1_4.length c1_4, .slice A1_5 l1_5.length c1_5] 79 (0, 0)) (blk_mv BK265) hb); have n18_ := Aside0.mk (blk_below (g := gb311) (o := .cells #[.slice Ao46 t297.length co46, .int .i64 t300, .int .i64 t301, .slice Ao50 t302.length co50, .slice Ao51 t305.length co51, .slice Ao52 t308.length co52] 84 (0, 0)) (blk_mv BK311) hb); have n19_ := Aside0.mk (below_step (by repeat (first | (with_reducible first | exact HB.out | apply below_alloc | apply pw_below_drewN | apply below_drew1 | refine below_set ?_ GE264.out | refine below_set ?_ GE265.out | refine below_set ?_ GE311.out) | exact HB.out)) hb); have n20_ := Aside0.mk (hbox); have n21_ := Aside0.mk ((by rw [hg]; exact (below_size (by repeat (first | (with_reducible first | exact HB.out | apply below_alloc | apply pw_below_drewN | apply below_drew1 | refine below_set ?_ GE264.out | refine below_set ?_ GE265.out | refine below_set ?_ GE311.out) | exact HB.out))) : w.heap.size ≤ gb326)); have n22_ := Aside0.mk ((by rw [hg]; exact (below_size (by repeat (first | (with_reducible first | exact HB.out | apply below_alloc | apply pw_below_drewN | apply below_drew1 | refine below_set ?_ GE264.out | refine below_set ?_ GE265.out | refine below_set ?_ GE311.out) | exact HB.out))) : w.heap.size ≤ gb326)); have n23_ := Aside0.mk ((by rw [hg]; exact Nat.ne_of_lt (blk_lt (g := gb264) (o := .cells #[.slice A0_0 l0_0.length c0_0, .int .i64 a0_1, .int .i64 a0_2, .slice A0_3 l0_3.length c0_3, .slice A0_4 l0_4.length c0_4, .slice A0_5 l0_5.length c0_5] 79 (0, 0)) (blk_mv BK264)) : gb264 ≠ gb326)); have n24_ := Aside0.mk ((by rw [hg]; exact Nat.ne_of_gt (blk_lt (g := gb264) (o := .cells #[.slice A0_0 l0_0.length c0_0, .int .i64 a0_1, .int .i64 a0_2, .slice A0_3 l0_3.length c0_3, .slice A0_4 l0_4.length c0_4, .slice A0_5 l0_5.length c0_5] 79 (0, 0)) (blk_mv BK264)) : gb326 ≠ gb264)); have n25_ := Aside0.mk ((by rw [hg]; exact Nat.ne_of_lt (blk_lt (g := gb265) (o := .cells #[.slice A1_0 l1_0.length c1_0, .int .i64 a1_1, .int .i64 a1_2, .slice A1_3 l1_3.length c1_3, .slice A1_4 l1_4.length c1_4, .slice A1_5 l1_5.length c1_5] 79 (0, 0)) (blk_mv BK265)) : gb265 ≠ gb326)); have n26_ := Aside0.mk ((by rw [hg]; exact Nat.ne_of_gt (blk_lt (g := gb265) (o := .cells #[.slice A1_0 l1_0.length c1_0, .int .i64 a1_1, .int .i64 a1_2, .slice A1_3 l1_3.length c1_3, .slice A1_4 l1_4.length c1_4, .slice A1_5 l1_5.length c1_5] 79 (0, 0)) (blk_mv BK265)) : gb326 ≠ gb265)); have n27_ := Aside0.mk ((by rw [hg]; exact Nat.ne_of_lt (blk_lt (g := gb311) (o := .cells #[.slice Ao46 t297.length co46, .int .i64 t300, .int .i64 t301, .slice Ao50 t302.length co50, .slice Ao51 t305.length co51, .slice Ao52 t308.length co52] 84 (0, 0)) (blk_mv BK311)) : gb311 ≠ gb326)); have n28_ := Aside0.mk ((by rw [hg]; exact Nat.ne_of_gt (blk_lt (g := gb311) (o := .cells #[.slice Ao46 t297.length co46, .int .i64 t300, .int .i64 t301, .slice Ao50 t302.length co50, .slice Ao51 t305.length co51, .slice Ao52 t308.length co52] 84 (0, 0)) (blk_mv BK311)) : gb326 ≠ gb311)); clear HO270; clear HO275; clear HO278; clear HO281; clear HO284; clear HO289; clear HO292; clear HO295; clear HO299; clear HO304; clear HO307; clear HO310; clear HO314; clear HO319; clear HO322; clear HO325; clear BK264; clear BK265; clear BK311; clear HB; have HO270 := n0_; have HO275 := n1_; have HO278 := n2_; have HO281 := n3_; have HO284 := n4_; have HO289 := n5_; have HO292 := n6_; have HO295 := n7_; have HO299 := n8_; have HO304 := n9_; have HO307 := n10_; have HO310 := n11_; have HO314 := n12_; have HO319 := n13_; have HO322 := n14_; have HO325 := n15_; have BK264 := n16_; have BK265 := n17_; have BK311 := n18_; have HB := n19_; have BK326 := n20_; have GW326 := n21_; have GE326 := n22_; have NB264_326 := n23_; have NB326_264 := n24_; have NB265_326 := n25_; have NB326_265 := n26_; have NB311_326 := n27_; have NB326_311 := n28_; clear n0_ n1_ n2_ n3_ n4_ n5_ n6_ n7_ n8_ n9_ n10_ n11_ n12_ n13_ n14_ n15_ n16_ n17_ n18_ n19_ n20_ n21_ n22_ n23_ n24_ n25_ n26_ n27_ n28_; clear hb hbox hg; obtain ⟨Ao56, co56, eo56⟩ := Kd.R_slice HO314.out; subst eo56; have hnb57 := NB326_264.out; have hnc57 := NB264_326.out; have hnb58 := NB326_265.out; have hnc58 := NB265_326.out; have hnb59 := NB326_311.out; have hnc59 := NB311_326.out; have hcz60_0 : w55.cell? ⟨gb326, 0, none⟩ = some (.slice none 0 0) := (blk_cell BK326.out 0).trans rfl; have hcz60_1 : w55.cell? ⟨gb326, 1, none⟩ = some (.int .i64 0) := (blk_cell BK326.out 1).trans rfl; have hcz60_2 : w55.cell? ⟨gb326, 2, none⟩ = some (.int .i64 0) := (blk_cell BK326.out 2).trans rfl; have hcz60_3 : w55.cell? ⟨gb326, 3, none⟩ = some (.slice none 0 0) := (blk_cell BK326.out 3).trans rfl; have hcz60_4 : w55.cell? ⟨gb326, 4, none⟩ = some (.slice none 0 0) := (blk_cell BK326.out 4).trans rfl; have hcz60_5 : w55.cell? ⟨gb326, 5, none⟩ = some (.slice none 0 0) := (blk_cell BK326.out 5).trans rfl; have hfz60_0 := blk_frozen BK326.out 0; have hfz60_1 := blk_frozen BK326.out 1; have hfz60_2 := blk_frozen BK326.out 2; have hfz60_3 := blk_frozen BK326.out 3; have hfz60_4 := blk_frozen BK326.out 4; have hfz60_5 := blk_frozen BK326.out 5; obtain ⟨Ao61, co61, eo61⟩ := Kd.R_slice HO319.out; subst eo61; obtain ⟨Ao62, co62, eo62⟩ := Kd.R_slice HO322.out; subst eo62; obtain ⟨Ao63, co63, eo63⟩ := Kd.S_slice HO325.out; subst eo63; have hcz64_0 : w55.cell? ⟨gb311, 0, none⟩ = some (.slice Ao46 t297.length co46) := (blk_cell BK311.out 0).trans rfl; have hcz64_1 : w55.cell? ⟨gb311, 1, none⟩ = some (.int .i64 t300) := (blk_cell BK311.out 1).trans rfl; have hcz64_2 : w55.cell? ⟨gb311, 2, none⟩ = some (.int .i64 t301) := (blk_cell BK311.out 2).trans rfl; have hcz64_3 : w55.cell? ⟨gb311, 3, none⟩ = some (.slice Ao50 t302.length co50) := (blk_cell BK311.out 3).trans rfl; have hcz64_4 : w55.cell? ⟨gb311, 4, none⟩ = some (.slice Ao51 t305.length co51) := (blk_cell BK311.out 4).trans rfl; have hcz64_5 : w55.cell? ⟨gb311, 5, none⟩ = some (.slice Ao52 t308.length co52) := (blk_cell BK311.out 5).trans rfl; have hfz64_0 := blk_frozen BK311.out 0; have hfz64_1 := blk_frozen BK311.out 1; have hfz64_2 := blk_frozen BK311.out 2; have hfz64_3 := blk_frozen BK311.out 3; have hfz64_4 := blk_frozen BK311.out 4; have hfz64_5 := blk_frozen BK311.out 5) | ((with_reducible refine gate_callee (f := 50) rfl ?_); refine goesL_ (some 31) rfl rfl Try.func50 (by kernel_rfl) rfl #[.agg #[.slice Ao46 t297.length co46, .int .i64 t300, .int .i64 t301, .slice Ao50 t302.length co50, .slice Ao51 t305.length co51, .slice Ao52 t308.length co52], .agg #[.slice Ao56 t312.length co56, .int .i64 t315, .int .i64 t316, .slice Ao61 t317.length co61, .slice Ao62 t320.length co62, .slice Ao63 t323.length co63]] rfl (by (try simp only [List.map_toArray, List.map_cons, List.map_nil]); first | done | rfl | (simp only [List.length_drop, List.length_take]; rfl)) ?_; (with_reducible refine (impl_ProofSame.calls k _ _ t297 t300 t301 _ _ t302 _ _ t305 _ _ t308 _ _ t312 t315 t316 _ _ t317 _ _ t320 _ _ t323 t327 _ ?side1 ?side2 ?side3 ?side4 ?side5 ?side6 ?side7 ?side8 ?side9 ?side10 ?side11 ?side12 ?side13 ?side14 ?side15 ?side16 A22.out).mono ?_); (case side1 => refine (Kd.R_reads' (e := 55) (base := w.heap.size) (ok := fun k_ => (((((((((((((some k_ ≠ (.slice Ao50 t302.length co50 : Value).ownBlock ∧ (some k_ ≠ (.slice Ao51 t305.length co51 : Value).ownBlock ∧ some k_ ≠ (.slice Ao52 t308.length co52 : Value).ownBlock)) ∧ some k_ ≠ (.slice Ao33 t268.length co33 : Value).ownBlock) ∧ some k_ ≠ (.slice Ao34 t273.length co34 : Value).ownBlock) ∧ some k_ ≠ (.slice Ao35 t276.length co35 : Value).ownBlock) ∧ some k_ ≠ (.slice Ao36 t279.length co36 : Value).ownBlock) ∧ some k_ ≠ (.slice Ao37 t282.length co37 : Value).ownBlock) ∧ some k_ ≠ (.slice Ao38 t287.length co38 : Value).ownBlock) ∧ some k_ ≠ (.slice Ao39 t290.length co39 : Value).ownBlock) ∧ some k_ ≠ (.slice Ao40 t293.length co40 : Value).ownBlock) ∧ some k_ ≠ (.slice Ao56 t312.length co56 : Value).ownBlock) ∧ some k_ ≠ (.slice Ao61 t317.length co61 : Value).ownBlock) ∧ some k_ ≠ (.slice Ao62 t320.length co62 : Value).ownBlock) ∧ some k_ ≠ (.slice Ao63 t323.length co63 : Value).ownBlock)) (n := t297.length) (c := co46) ?_).2.2; exact (by (with_reducible repeat (first | apply Kd.R_alloc | apply Kd.R_drewN | apply Kd.R_drew)); exact (Kd.R_mono (Kd.R_fars (Kd.R_types HO299.out BK326.out (by decide)) (fun _ hk => hk.2)) (fun _ h_ => h_.1)))); (case side2 => exact (Kd.R_reads' HO299.out).2.1); (case side3 => refine (Kd.R_reads' (e := 5) (base := w.heap.size) (ok := fun k_ => ((((((some k_ ≠ (.slice Ao51 t305.length co51 : Value).ownBlock ∧ some k_ ≠ (.slice Ao34 t273.length co34 : Value).ownBlock) ∧ some k_ ≠ (.slice Ao35 t276.length co35 : Value).ownBlock) ∧ some k_ ≠ (.slice Ao38 t287.length co38 : Value).ownBlock) ∧ some k_ ≠ (.slice Ao39 t290.length co39 : Value).ownBlock) ∧ some k_ ≠ (.slice Ao61 t317.length co61 : Value).ownBlock) ∧ some k_ ≠ (.slice Ao62 t320.length co62 : Value).ownBlock)) (n := t302.length) (c := co50) ?_).2.2; exact (by (with_reducible repeat (first | apply Kd.R_alloc | apply Kd.R_drewN | apply Kd.R_drew)); exact (Kd.R_mono (Kd.R_fars (Kd.R_types HO304.out BK326.out (by decide)) (fun _ hk => hk.2)) (fun _ h_ => h_.1)))); (case side4 => exact (Kd.R_reads' HO304.out).2.1); (case side5 => refine (Kd.R_reads' (e := 5) (base := w.heap.size) (ok := fun k_ => ((((((some k_ ≠ (.slice Ao50 t302.length co50 : Value).ownBlock ∧ some k_ ≠ (.slice Ao34 t273.length co34 : Value).ownBlock) ∧ some k_ ≠ (.slice Ao35 t276.length co35 : Value).ownBlock) ∧ some k_ ≠ (.slice Ao38 t287.length co38 : Value).ownBlock) ∧ some k_ ≠ (.slice Ao39 t290.length co39 : Value).ownBlock) ∧ some k_ ≠ (.slice Ao61 t317.length co61 : Value).ownBlock) ∧ some k_ ≠ (.slice Ao62 t320.length co62 : Value).ownBlock)) (n := t305.length) (c := co51) ?_).2.2; exact (by (with_reducible repeat (first | apply Kd.R_alloc | apply Kd.R_drewN | apply Kd.R_drew)); exact (Kd.R_mono (Kd.R_fars (Kd.R_types HO307.out BK326.out (by decide)) (fun _ hk => hk.2)) (fun _ h_ => h_.1)))); (case side6 => exact (Kd.R_reads' HO307.out).2.1); (case side7 => refine (Kd.S_reads' (e := 37) (base := w.heap.size) (ok := fun k_ => ((((((((((some k_ ≠ (.slice Ao50 t302.length co50 : Value).ownBlock ∧ some k_ ≠ (.slice Ao51 t305.length co51 : Value).ownBlock) ∧ some k_ ≠ (.slice Ao34 t273.length co34 : Value).ownBlock) ∧ some k_ ≠ (.slice Ao35 t276.length co35 : Value).ownBlock) ∧ some k_ ≠ (.slice Ao36 t279.length co36 : Value).ownBlock) ∧ some k_ ≠ (.slice Ao38 t287.length co38 : Value).ownBlock) ∧ some k_ ≠ (.slice Ao39 t290.length co39 : Value).ownBlock) ∧ some k_ ≠ (.slice Ao40 t293.length co40 : Value).ownBlock) ∧ some k_ ≠ (.slice Ao61 t317.length co61 : Value).ownBlock) ∧ some k_ ≠ (.slice Ao62 t320.length co62 : Value).ownBlock) ∧ some k_ ≠ (.slice Ao63 t323.length co63 : Value).ownBlock)) (n := t308.length) (c := co52) ?_).2.2; exact (by (with_reducible repeat (first | apply Kd.S_alloc | apply Kd.S_drewN | apply Kd.S_drew)); exact (Kd.S_mono (Kd.S_fars (Kd.S_types HO310.out BK326.out (by decide)) (fun _ hk => hk.2)) (fun _ h_ => h_.1)))); (case side8 => exact (Kd.S_reads' HO310.out).2.1); (case side9 => refine (Kd.R_reads' (e := 55) (base := w.heap.size) (ok := fun k_ => (((((((((((((some k_ ≠ (.slice Ao61 t317.length co61 : Value).ownBlock ∧ (some k_ ≠ (.slice Ao62 t320.length co62 : Value).ownBlock ∧ some k_ ≠ (.slice Ao63 t323.length co63 : Value).ownBlock)) ∧ some k_ ≠ (.slice Ao33 t268.length co33 : Value).ownBlock) ∧ some k_ ≠ (.slice Ao34 t273.length co34 : Value).ownBlock) ∧ some k_ ≠ (.slice Ao35 t276.length co35 : Value).ownBlock) ∧ some k_ ≠ (.slice Ao36 t279.length co36 : Value).ownBlock) ∧ some k_ ≠ (.slice Ao37 t282.length co37 : Value).ownBlock) ∧ some k_ ≠ (.slice Ao38 t287.length co38 : Value).ownBlock) ∧ some k_ ≠ (.slice Ao39 t290.length co39 : Value).ownBlock) ∧ some k_ ≠ (.slice Ao40 t293.length co40 : Value).ownBlock) ∧ some k_ ≠ (.slice Ao46 t297.length co46 : Value).ownBlock) ∧ some k_ ≠ (.slice Ao50 t302.length co50 : Value).ownBlock) ∧ some k_ ≠ (.slice Ao51 t305.length co51 : Value).ownBlock) ∧ some k_ ≠ (.slice Ao52 t308.length co52 : Value).ownBlock)) (n := t312.length) (c := co56) ?_).2.2; exact (by (with_reducible repeat (first | apply Kd.R_alloc | apply Kd.R_drewN | apply Kd.R_drew)); exact (Kd.R_mono (Kd.R_fars (Kd.R_types HO314.out BK326.out (by decide)) (fun _ hk => hk.2)) (fun _ h_ => h_.1)))); (case side10 => exact (Kd.R_reads' HO314.out).2.1); (case side11 => refine (Kd.R_reads' (e := 5) (base := w.heap.size) (ok := fun k_ => ((((((some k_ ≠ (.slice Ao62 t320.length co62 : Value).ownBlock ∧ some k_ ≠ (.slice Ao34 t273.length co34 : Value).ownBlock) ∧ some k_ ≠ (.slice Ao35 t276.length co35 : Value).ownBlock) ∧ some k_ ≠ (.slice Ao38 t287.length co38 : Value).ownBlock) ∧ some k_ ≠ (.slice Ao39 t290.length co39 : Value).ownBlock) ∧ some k_ ≠ (.slice Ao50 t302.length co50 : Value).ownBlock) ∧ some k_ ≠ (.slice Ao51 t305.length co51 : Value).ownBlock)) (n := t317.length) (c := co61) ?_).2.2; exact (by (with_reducible repeat (first | apply Kd.R_alloc | apply Kd.R_drewN | apply Kd.R_drew)); exact (Kd.R_mono (Kd.R_fars (Kd.R_types HO319.out BK326.out (by decide)) (fun _ hk => hk.2)) (fun _ h_ => h_.1)))); (case side12 => exact (Kd.R_reads' HO319.out).2.1); (case side13 => refine (Kd.R_reads' (e := 5) (base := w.heap.size) (ok := fun k_ => ((((((some k_ ≠ (.slice Ao61 t317.length co61 : Value).ownBlock ∧ some k_ ≠ (.slice Ao34 t273.length co34 : Value).ownBlock) ∧ some k_ ≠ (.slice Ao35 t276.length co35 : Value).ownBlock) ∧ some k_ ≠ (.slice Ao38 t287.length co38 : Value).ownBlock) ∧ some k_ ≠ (.slice Ao39 t290.length co39 : Value).ownBlock) ∧ some k_ ≠ (.slice Ao50 t302.length co50 : Value).ownBlock) ∧ some k_ ≠ (.slice Ao51 t305.length co51 : Value).ownBlock)) (n := t320.length) (c := co62) ?_).2.2; exact (by (with_reducible repeat (first | apply Kd.R_alloc | apply Kd.R_drewN | apply Kd.R_drew)); exact (Kd.R_mono (Kd.R_fars (Kd.R_types HO322.out BK326.out (by decide)) (fun _ hk => hk.2)) (fun _ h_ => h_.1)))); (case side14 => exact (Kd.R_reads' HO322.out).2.1); (case side15 => refine (Kd.S_reads' (e := 37) (base := w.heap.size) (ok := fun k_ => ((((((((((some k_ ≠ (.slice Ao61 t317.length co61 : Value).ownBlock ∧ some k_ ≠ (.slice Ao62 t320.length co62 : Value).ownBlock) ∧ some k_ ≠ (.slice Ao34 t273.length co34 : Value).ownBlock) ∧ some k_ ≠ (.slice Ao35 t276.length co35 : Value).ownBlock) ∧ some k_ ≠ (.slice Ao36 t279.length co36 : Value).ownBlock) ∧ some k_ ≠ (.slice Ao38 t287.length co38 : Value).ownBlock) ∧ some k_ ≠ (.slice Ao39 t290.length co39 : Value).ownBlock) ∧ some k_ ≠ (.slice Ao40 t293.length co40 : Value).ownBlock) ∧ some k_ ≠ (.slice Ao50 t302.length co50 : Value).ownBlock) ∧ some k_ ≠ (.slice Ao51 t305.length co51 : Value).ownBlock) ∧ some k_ ≠ (.slice Ao52 t308.length co52 : Value).ownBlock)) (n := t323.length) (c := co63) ?_).2.2; exact (by (with_reducible repeat (first | apply Kd.S_alloc | apply Kd.S_drewN | apply Kd.S_drew)); exact (Kd.S_mono (Kd.S_fars (Kd.S_types HO325.out BK326.out (by decide)) (fun _ hk => hk.2)) (fun _ h_ => h_.1)))); (case side16 => exact (Kd.S_reads' HO325.out).2.1); rintro e w65 ⟨rfl, hb⟩; refine ⟨_, rfl, ?_⟩; have n0_ := Aside0.mk (Kd.R_below (by (with_reducible repeat (first | apply Kd.R_alloc | apply Kd.R_drewN | apply Kd.R_drew)); exact (Kd.R_mono (Kd.R_fars (Kd.R_types HO270.out BK326.out (by decide)) (fun _ hk => hk.2)) (fun _ h_ => h_.1))) hb); have n1_ := Aside0.mk (Kd.R_below (by (with_reducible repeat (first | apply Kd.R_alloc | apply Kd.R_drewN | apply Kd.R_drew)); exact (Kd.R_mono (Kd.R_fars (Kd.R_types HO275.out BK326.out (by decide)) (fun _ hk => hk.2)) (fun _ h_ => h_.1))) hb); have n2_ := Aside0.mk (Kd.R_below (by (with_reducible repeat (first | apply Kd.R_alloc | apply Kd.R_drewN | apply Kd.R_drew)); exact (Kd.R_mono (Kd.R_fars (Kd.R_types HO278.out BK326.out (by decide)) (fun _ hk => hk.2)) (fun _ h_ => h_.1))) hb); have n3_ := Aside0.mk (Kd.S_below (by (with_reducible repeat (first | apply Kd.S_alloc | apply Kd.S_drewN | apply Kd.S_drew)); exact (Kd.S_mono (Kd.S_fars (Kd.S_types HO281.out BK326.out (by decide)) (fun _ hk => hk.2)) (fun _ h_ => h_.1))) hb); have n4_ := Aside0.mk (Kd.R_below (by (with_reducible repeat (first | apply Kd.R_alloc | apply Kd.R_drewN | apply Kd.R_drew)); exact (Kd.R_mono (Kd.R_fars (Kd.R_types HO284.out BK326.out (by decide)) (fun _ hk => hk.2)) (fun _ h_ => h_.1))) hb); have n5_ := Aside0.mk (Kd.R_below (by (with_reducible repeat (first | apply Kd.R_alloc | apply Kd.R_drewN | apply Kd.R_drew)); exact (Kd.R_mono (Kd.R_fars (Kd.R_types HO289.out BK326.out (by decide)) (fun _ hk => hk.2)) (fun _ h_ => h_.1))) hb); have n6_ := Aside0.mk (Kd.R_below (by (with_reducible repeat (first | apply Kd.R_alloc | apply Kd.R_drewN | apply Kd.R_drew)); exact (Kd.R_mono (Kd.R_fars (Kd.R_types HO292.out BK326.out (by decide)) (fun _ hk => hk.2)) (fun _ h_ => h_.1))) hb); have n7_ := Aside0.mk (Kd.S_below (by (with_reducible repeat (first | apply Kd.S_alloc | apply Kd.S_drewN | apply Kd.S_drew)); exact (Kd.S_mono (Kd.S_fars (Kd.S_types HO295.out BK326.out (by decide)) (fun _ hk => hk.2)) (fun _ h_ => h_.1))) hb); have n8_ := Aside0.mk (Kd.R_below (by (with_reducible repeat (first | apply Kd.R_alloc | apply Kd.R_drewN | apply Kd.R_drew)); exact (Kd.R_mono (Kd.R_fars (Kd.R_types HO299.out BK326.out (by decide)) (fun _ hk => hk.2)) (fun _ h_ => h_.1))) hb); have n9_ := Aside0.mk (Kd.R_below (by (with_reducible repeat (first | apply Kd.R_alloc | apply Kd.R_drewN | apply Kd.R_drew)); exact (Kd.R_mono (Kd.R_fars (Kd.R_types HO304.out BK326.out (by decide)) (fun _ hk => hk.2)) (fun _ h_ => h_.1))) hb); have n10_ := Aside0.mk (Kd.R_below (by (with_reducible repeat (first | apply Kd.R_alloc | apply Kd.R_drewN | apply Kd.R_drew)); exact (Kd.R_mono (Kd.R_fars (Kd.R_types HO307.out BK326.out (by decide)) (fun _ hk => hk.2)) (fun _ h_ => h_.1))) hb); have n11_ := Aside0.mk (Kd.S_below (by (with_reducible repeat (first | apply Kd.S_alloc | apply Kd.S_drewN | apply Kd.S_drew)); exact (Kd.S_mono (Kd.S_fars (Kd.S_types HO310.out BK326.out (by decide)) (fun _ hk => hk.2)) (fun _ h_ => h_.1))) hb); have n12_ := Aside0.mk (Kd.R_below (by (with_reducible repeat (first | apply Kd.R_alloc | apply Kd.R_drewN | apply Kd.R_drew)); exact (Kd.R_mono (Kd.R_fars (Kd.R_types HO314.out BK326.out (by decide)) (fun _ hk => hk.2)) (fun _ h_ => h_.1))) hb); have n13_ := Aside0.mk (Kd.R_below (by (with_reducible repeat (first | apply Kd.R_alloc | apply Kd.R_drewN | apply Kd.R_drew)); exact (Kd.R_mono (Kd.R_fars (Kd.R_types HO319.out BK326.out (by decide)) (fun _ hk => hk.2)) (fun _ h_ => h_.1))) hb); have n14_ := Aside0.mk (Kd.R_below (by (with_reducible repeat (first | apply Kd.R_alloc | apply Kd.R_drewN | apply Kd.R_drew)); exact (Kd.R_mono (Kd.R_fars (Kd.R_types HO322.out BK326.out (by decide)) (fun _ hk => hk.2)) (fun _ h_ => h_.1))) hb); have n15_ := Aside0.mk (Kd.S_below (by (with_reducible repeat (first | apply Kd.S_alloc | apply Kd.S_drewN | apply Kd.S_drew)); exact (Kd.S_mono (Kd.S_fars (Kd.S_types HO325.out BK326.out (by decide)) (fun _ hk => hk.2)) (fun _ h_ => h_.1))) hb); have n16_ := Aside0.mk (blk_below (g := gb264) (o := .cells #[.slice A0_0 l0_0.length c0_0, .int .i64 a0_1, .int .i64 a0_2, .slice A0_3 l0_3.length c0_3, .slice A0_4 l0_4.length c0_4, .slice A0_5 l0_5.length c0_5] 79 (0, 0)) (by (with_reducible repeat (first | refine blk_drewN ?_ _ | refine blk_drew ?_ | refine blk_alloc ?_ _)); refine blk_far ?_ NB264_326.out _; (with_reducible repeat (first | refine blk_drewN ?_ _ | refine blk_drew ?_ | refine blk_alloc ?_ _)); refine blk_far ?_ NB264_326.out _; (with_reducible repeat (first | refine blk_drewN ?_ _ | refine blk_drew ?_ | refine blk_alloc ?_ _)); refine blk_far ?_ NB264_326.out _; (with_reducible repeat (first | refine blk_drewN ?_ _ | refine blk_drew ?_ | refine blk_alloc ?_ _)); refine blk_far ?_ NB264_326.out _; (with_reducible repeat (first | refine blk_drewN ?_ _ | refine blk_drew ?_ | refine blk_alloc ?_ _)); refine blk_far ?_ NB264_326.out _; (with_reducible repeat (first | refine blk_drewN ?_ _ | refine blk_drew ?_ | refine blk_alloc ?_ _)); refine blk_far ?_ NB264_326.out _; (with_reducible repeat (first | refine blk_drewN ?_ _ | refine blk_drew ?_ | refine blk_alloc ?_ _)); exact BK264.out) hb); have n17_ := Aside0.mk (blk_below (g := gb265) (o := .cells #[.slice A1_0 l1_0.length c1_0, .int .i64 a1_1, .int .i64 a1_2, .slice A1_3 l1_3.length c1_3, .slice A1_4 l1_4.length c1_4, .slice A1_5 l1_5.length c1_5] 79 (0, 0)) (by (with_reducible repeat (first | refine blk_drewN ?_ _ | refine blk_drew ?_ | refine blk_alloc ?_ _)); refine blk_far ?_ NB265_326.out _; (with_reducible repeat (first | refine blk_drewN ?_ _ | refine blk_drew ?_ | refine blk_alloc ?_ _)); refine blk_far ?_ NB265_326.out _; (with_reducible repeat (first | refine blk_drewN ?_ _ | refine blk_drew ?_ | refine blk_alloc ?_ _)); refine blk_far ?_ NB265_326.out _; (with_reducible repeat (first | refine blk_drewN ?_ _ | refine blk_drew ?_ | refine blk_alloc ?_ _)); refine blk_far ?_ NB265_326.out _; (with_reducible repeat (first | refine blk_drewN ?_ _ | refine blk_drew ?_ | refine blk_alloc ?_ _)); refine blk_far ?_ NB265_326.out _; (with_reducible repeat (first | refine blk_drewN ?_ _ | refine blk_drew ?_ | refine blk_alloc ?_ _)); refine blk_far ?_ NB265_326.out _; (with_reducible repeat (first | refine blk_drewN ?_ _ | refine blk_drew ?_ | refine blk_alloc ?_ _)); exact BK265.out) hb); have n18_ := Aside0.mk (blk_below (g := gb311) (o := .cells #[.slice Ao46 t297.length co46, .int .i64 t300, .int .i64 t301, .slice Ao50 t302.length co50, .slice Ao51 t305.length co51, .slice Ao52 t308.length co52] 84 (0, 0)) (by (with_reducible repeat (first | refine blk_drewN ?_ _ | refine blk_drew ?_ | refine blk_alloc ?_ _)); refine blk_far ?_ NB311_326.out _; (with_reducible repeat (first | refine blk_drewN ?_ _ | refine blk_drew ?_ | refine blk_alloc ?_ _)); refine blk_far ?_ NB311_326.out _; (with_reducible repeat (first | refine blk_drewN ?_ _ | refine blk_drew ?_ | refine blk_alloc ?_ _)); refine blk_far ?_ NB311_326.out _; (with_reducible repeat (first | refine blk_drewN ?_ _ | refine blk_drew ?_ | refine blk_alloc ?_ _)); refine blk_far ?_ NB311_326.out _; (with_reducible repeat (first | refine blk_drewN ?_ _ | refine blk_drew ?_ | refine blk_alloc ?_ _)); refine blk_far ?_ NB311_326.out _; (with_reducible repeat (first | refine blk_drewN ?_ _ | refine blk_drew ?_ | refine blk_alloc ?_ _)); refine blk_far ?_ NB311_326.out _; (with_reducible repeat (first | refine blk_drewN ?_ _ | refine blk_drew ?_ | refine blk_alloc ?_ _)); exact BK311.out) hb); have n19_ := Aside0.mk (blk_below (g := gb326) (o := .cells #[.slice Ao56 t312.length co56, .int .i64 t315, .int .i64 t316, .slice Ao61 t317.length co61, .slice Ao62 t320.length co62, .slice Ao63 t323.length co63] 84 (0, 0)) (by (with_reducible repeat (first | refine blk_drewN ?_ _ | refine blk_drew ?_ | refine blk_alloc ?_ _)); refine blk_put (cs := #[.slice Ao56 t312.length co56, .int .i64 t315, .int .i64 t316, .slice Ao61 t317.length co61, .slice Ao62 t320.length co62, .slice none 0 0]) ?_ 5 _ rfl; (with_reducible repeat (first | refine blk_drewN ?_ _ | refine blk_drew ?_ | refine blk_alloc ?_ _)); refine blk_put (cs := #[.slice Ao56 t312.length co56, .int .i64 t315, .int .i64 t316, .slice Ao61 t317.length co61, .slice none 0 0, .slice none 0 0]) ?_ 4 _ rfl; (with_reducible repeat (first | refine blk_drewN ?_ _ | refine blk_drew ?_ | refine blk_alloc ?_ _)); refine blk_put (cs := #[.slice Ao56 t312.length co56, .int .i64 t315, .int .i64 t316, .slice none 0 0, .slice none 0 0, .slice none 0 0]) ?_ 3 _ rfl; (with_reducible repeat (first | refine blk_drewN ?_ _ | refine blk_drew ?_ | refine blk_alloc ?_ _)); refine blk_put (cs := #[.slice Ao56 t312.length co56, .int .i64 t315, .int .i64 0, .slice none 0 0, .slice none 0 0, .slice none 0 0]) ?_ 2 _ rfl; (with_reducible repeat (first | refine blk_drewN ?_ _ | refine blk_drew ?_ | refine blk_alloc ?_ _)); refine blk_put (cs := #[.slice Ao56 t312.length co56, .int .i64 0, .int .i64 0, .slice none 0 0, .slice none 0 0, .slice none 0 0]) ?_ 1 _ rfl; (with_reducible repeat (first | refine blk_drewN ?_ _ | refine blk_drew ?_ | refine blk_alloc ?_ _)); refine blk_put (cs := #[.slice none 0 0, .int .i64 0, .int .i64 0, .slice none 0 0, .slice none 0 0, .slice none 0 0]) ?_ 0 _ rfl; (with_reducible repeat (first | refine blk_drewN ?_ _ | refine blk_drew ?_ | refine blk_alloc ?_ _)); exact BK326.out) hb); have n20_ := Aside0.mk (below_step (by repeat (first | (with_reducible first | exact HB.out | apply below_alloc | apply pw_below_drewN | apply below_drew1 | refine below_set ?_ GE264.out | refine below_set ?_ GE265.out | refine below_set ?_ GE311.out | refine below_set ?_ GE326.out) | exact HB.out)) hb); clear HO270; clear HO275; clear HO278; clear HO281; clear HO284; clear HO289; clear HO292; clear HO295; clear HO299; clear HO304; clear HO307; clear HO310; clear HO314; clear HO319; clear HO322; clear HO325; clear BK264; clear BK265; clear BK311; clear BK326; clear HB; have HO270 := n0_; have HO275 := n1_; have HO278 := n2_; have HO281 := n3_; have HO284 := n4_; have HO289 := n5_; have HO292 := n6_; have HO295 := n7_; have HO299 := n8_; have HO304 := n9_; have HO307 := n10_; have HO310 := n11_; have HO314 := n12_; have HO319 := n13_; have HO322 := n14_; have HO325 := n15_; have BK264 := n16_; have BK265 := n17_; have BK311 := n18_; have BK326 := n19_; have HB := n20_; clear n0_ n1_ n2_ n3_ n4_ n5_ n6_ n7_ n8_ n9_ n10_ n11_ n12_ n13_ n14_ n15_ n16_ n17_ n18_ n19_ n20_; (try clear hb); (try clear hb2); (try clear hk); (try clear hi)))
      have n0_ := Aside0.mk (Kd.R_drew HO270.out)
      have n1_ := Aside0.mk (Kd.R_drew HO275.out)
      have n2_ := Aside0.mk (Kd.R_drew HO278.out)
      have n3_ := Aside0.mk (Kd.S_drew HO281.out)
      have n4_ := Aside0.mk (Kd.R_drew HO284.out)
      have n5_ := Aside0.mk (Kd.R_drew HO289.out)
      have n6_ := Aside0.mk (Kd.R_drew HO292.out)
      have n7_ := Aside0.mk (Kd.S_drew HO295.out)
      have n8_ := Aside0.mk (Kd.R_drew HO299.out)
      have n9_ := Aside0.mk (Kd.R_drew HO304.out)
      have n10_ := Aside0.mk (Kd.R_drew HO307.out)
      have n11_ := Aside0.mk (Kd.S_drew HO310.out)
      have n12_ := Aside0.mk (Kd.R_drew HO314.out)
      have n13_ := Aside0.mk (Kd.R_drew HO319.out)
      have n14_ := Aside0.mk (Kd.R_drew HO322.out)
      have n15_ := Aside0.mk (Kd.S_drew HO325.out)
      have n16_ := Aside0.mk (blk_drew BK264.out)
      have n17_ := Aside0.mk (blk_drew BK265.out)
      have n18_ := Aside0.mk (blk_drew BK311.out)
      have n19_ := Aside0.mk (blk_drew BK326.out)
      have n20_ := Aside0.mk (below_drew1 HB.out)
      clear HO270
      clear HO275
      clear HO278
      clear HO281
      clear HO284
      clear HO289
      clear HO292
      clear HO295
      clear HO299
      clear HO304
      clear HO307
      clear HO310
      clear HO314
      clear HO319
      clear HO322
      clear HO325
      clear BK264
      clear BK265
      clear BK311
      clear BK326
      clear HB
      have HO270 := n0_
      have HO275 := n1_
      have HO278 := n2_
      have HO281 := n3_
      have HO284 := n4_
      have HO289 := n5_
      have HO292 := n6_
      have HO295 := n7_
      have HO299 := n8_
      have HO304 := n9_
      have HO307 := n10_
      have HO310 := n11_
      have HO314 := n12_
      have HO319 := n13_
      have HO322 := n14_
      have HO325 := n15_
      have BK264 := n16_
      have BK265 := n17_
      have BK311 := n18_
      have BK326 := n19_
      have HB := n20_
      clear n0_ n1_ n2_ n3_ n4_ n5_ n6_ n7_ n8_ n9_ n10_ n11_ n12_ n13_ n14_ n15_ n16_ n17_ n18_ n19_ n20_
      refine start_ (n := 5) (S := fun w' => w'.cell? ⟨gb311, 0, none⟩ = some (.slice Ao46 t297.length co46) ∧ w'.cell? ⟨gb311, 1, none⟩ = some (.int .i64 t300) ∧ w'.cell? ⟨gb311, 2, none⟩ = some (.int .i64 t301) ∧ w'.cell? ⟨gb311, 3, none⟩ = some (.slice Ao50 t302.length co50) ∧ w'.cell? ⟨gb311, 4, none⟩ = some (.slice Ao51 t305.length co51) ∧ w'.cell? ⟨gb311, 5, none⟩ = some (.slice Ao52 t308.length co52) ∧ w'.cell? ⟨gb264, 0, none⟩ = some (.slice A0_0 l0_0.length c0_0) ∧ w'.cell? ⟨gb264, 1, none⟩ = some (.int .i64 a0_1) ∧ w'.cell? ⟨gb264, 2, none⟩ = some (.int .i64 a0_2) ∧ w'.cell? ⟨gb264, 3, none⟩ = some (.slice A0_3 l0_3.length c0_3) ∧ w'.cell? ⟨gb264, 4, none⟩ = some (.slice A0_4 l0_4.length c0_4) ∧ w'.cell? ⟨gb264, 5, none⟩ = some (.slice A0_5 l0_5.length c0_5)) (ds := []) #[false, false, false, false, false] (by kernel_rfl) rfl rfl ⟨(blk_cell BK311.out 0).trans rfl, (blk_cell BK311.out 1).trans rfl, (blk_cell BK311.out 2).trans rfl, (blk_cell BK311.out 3).trans rfl, (blk_cell BK311.out 4).trans rfl, (blk_cell BK311.out 5).trans rfl, (blk_cell BK264.out 0).trans rfl, (blk_cell BK264.out 1).trans rfl, (blk_cell BK264.out 2).trans rfl, (blk_cell BK264.out 3).trans rfl, (blk_cell BK264.out 4).trans rfl, (blk_cell BK264.out 5).trans rfl⟩ (fun hHeld => ?_)
      generalize w65.drew = w66 at HO270 HO275 HO278 HO281 HO284 HO289 HO292 HO295 HO299 HO304 HO307 HO310 HO314 HO319 HO322 HO325 BK264 BK265 BK311 BK326 HB hHeld ⊢
      refine take_ (i := 0) (N := some 35) (v := ?_) (a' := ?_) #[true, false, false, false, false] rfl rfl (by kernel_rfl) (fun _ _ _ h => h) (Or.inl ⟨by rfl, ?_⟩) hHeld ?_ ?_
      rotate_left
      ·rintro w' ⟨s0, s1, s2, s3, s4, s5, s6, s7, s8, s9, s10, s11⟩
       go_simp
       with_reducible rfl
      rotate_left
      ·simp only [Act.put, List.setIfInBounds_toArray, List.set_cons_zero, List.set_cons_succ, i64_w, i32_w]
       rfl
      refine take_ (i := 1) (N := some 36) (v := ?_) (a' := ?_) #[true, true, false, false, false] rfl rfl (by kernel_rfl) (fun _ _ _ h => h) (Or.inl ⟨by rfl, ?_⟩) hHeld ?_ ?_
      rotate_left
      ·rintro w' ⟨s0, s1, s2, s3, s4, s5, s6, s7, s8, s9, s10, s11⟩
       go_simp
       with_reducible rfl
      rotate_left
      ·simp only [Act.put, List.setIfInBounds_toArray, List.set_cons_zero, List.set_cons_succ, i64_w, i32_w]
       rfl
      refine one_ (i := 2) (N := some 37) #[true, true, true, false, false] rfl rfl (by kernel_rfl) (by decide) (fun K hK => ?_)
      refine goes_ Try.func49 (by kernel_rfl) rfl #[.agg #[.slice A0_0 l0_0.length c0_0, .int .i64 a0_1, .int .i64 a0_2, .slice A0_3 l0_3.length c0_3, .slice A0_4 l0_4.length c0_4, .slice A0_5 l0_5.length c0_5]] (by rfl) rfl rfl (by (try simp only [List.map_toArray, List.map_cons, List.map_nil]); first | done | rfl | (simp only [List.length_drop, List.length_take]; rfl)) ?_
      with_reducible refine (laws_toProof.calls k _ _ l0_0 a0_1 a0_2 _ _ l0_3 _ _ l0_4 _ _ l0_5 t328 t331 t332 t333 t336 t339 _ ?side1 ?side2 ?side3 ?side4 ?side5 ?side6 ?side7 ?side8 A24.out).mono ?_
      (case side1 => repeat (first | exact (Kd.C_below HR0_0.out HB.out) | (with_reducible refine Kd.C_alloc ?_ _) | (with_reducible refine Kd.C_drewN ?_ _) | (with_reducible refine Kd.C_drew ?_)))
      (case side2 => exact HC0_0.out)
      (case side3 => repeat (first | exact (Kd.C_below HR0_3.out HB.out) | (with_reducible refine Kd.C_alloc ?_ _) | (with_reducible refine Kd.C_drewN ?_ _) | (with_reducible refine Kd.C_drew ?_)))
      (case side4 => exact HC0_3.out)
      (case side5 => repeat (first | exact (Kd.C_below HR0_4.out HB.out) | (with_reducible refine Kd.C_alloc ?_ _) | (with_reducible refine Kd.C_drewN ?_ _) | (with_reducible refine Kd.C_drew ?_)))
      (case side6 => exact HC0_4.out)
      (case side7 => repeat (first | exact (Kd.C_below HR0_5.out HB.out) | (with_reducible refine Kd.C_alloc ?_ _) | (with_reducible refine Kd.C_drewN ?_ _) | (with_reducible refine Kd.C_drew ?_)))
      (case side8 => exact HC0_5.out)
      rintro e w67 ⟨v329, v334, v337, v340, rfl, ho0, ho1, ho2, ho3, hb⟩
      refine ⟨_, rfl, ?_⟩
      have n0_ := Aside0.mk (Kd.R_mono (Kd.R_told (Kd.R_told (Kd.R_told (Kd.R_told (Kd.R_old (Kd.R_mv HO270) hb) (Kd.R_base ho0)) (Kd.R_base ho1)) (Kd.R_base ho2)) (Kd.S_base ho3)) (fun _ h_ => h_.1))
      have n1_ := Aside0.mk (Kd.R_mono (Kd.R_told (Kd.R_told (Kd.R_old (Kd.R_mv HO275) hb) (Kd.R_base ho1)) (Kd.R_base ho2)) (fun _ h_ => h_.1))
      have n2_ := Aside0.mk (Kd.R_mono (Kd.R_told (Kd.R_told (Kd.R_old (Kd.R_mv HO278) hb) (Kd.R_base ho1)) (Kd.R_base ho2)) (fun _ h_ => h_.1))
      have n3_ := Aside0.mk (Kd.S_mono (Kd.S_told (Kd.S_told (Kd.S_told (Kd.S_old (Kd.S_mv HO281) hb) (Kd.R_base ho1)) (Kd.R_base ho2)) (Kd.S_base ho3)) (fun _ h_ => h_.1))
      have n4_ := Aside0.mk (Kd.R_mono (Kd.R_told (Kd.R_told (Kd.R_told (Kd.R_told (Kd.R_old (Kd.R_mv HO284) hb) (Kd.R_base ho0)) (Kd.R_base ho1)) (Kd.R_base ho2)) (Kd.S_base ho3)) (fun _ h_ => h_.1))
      have n5_ := Aside0.mk (Kd.R_mono (Kd.R_told (Kd.R_told (Kd.R_old (Kd.R_mv HO289) hb) (Kd.R_base ho1)) (Kd.R_base ho2)) (fun _ h_ => h_.1))
      have n6_ := Aside0.mk (Kd.R_mono (Kd.R_told (Kd.R_told (Kd.R_old (Kd.R_mv HO292) hb) (Kd.R_base ho1)) (Kd.R_base ho2)) (fun _ h_ => h_.1))
      have n7_ := Aside0.mk (Kd.S_mono (Kd.S_told (Kd.S_told (Kd.S_told (Kd.S_old (Kd.S_mv HO295) hb) (Kd.R_base ho1)) (Kd.R_base ho2)) (Kd.S_base ho3)) (fun _ h_ => h_.1))
      have n8_ := Aside0.mk (Kd.R_mono (Kd.R_told (Kd.R_told (Kd.R_told (Kd.R_told (Kd.R_old (Kd.R_mv HO299) hb) (Kd.R_base ho0)) (Kd.R_base ho1)) (Kd.R_base ho2)) (Kd.S_base ho3)) (fun _ h_ => h_.1))
      have n9_ := Aside0.mk (Kd.R_mono (Kd.R_told (Kd.R_told (Kd.R_old (Kd.R_mv HO304) hb) (Kd.R_base ho1)) (Kd.R_base ho2)) (fun _ h_ => h_.1))
      have n10_ := Aside0.mk (Kd.R_mono (Kd.R_told (Kd.R_told (Kd.R_old (Kd.R_mv HO307) hb) (Kd.R_base ho1)) (Kd.R_base ho2)) (fun _ h_ => h_.1))
      have n11_ := Aside0.mk (Kd.S_mono (Kd.S_told (Kd.S_told (Kd.S_told (Kd.S_old (Kd.S_mv HO310) hb) (Kd.R_base ho1)) (Kd.R_base ho2)) (Kd.S_base ho3)) (fun _ h_ => h_.1))
      have n12_ := Aside0.mk (Kd.R_mono (Kd.R_told (Kd.R_told (Kd.R_told (Kd.R_told (Kd.R_old (Kd.R_mv HO314) hb) (Kd.R_base ho0)) (Kd.R_base ho1)) (Kd.R_base ho2)) (Kd.S_base ho3)) (fun _ h_ => h_.1))
      have n13_ := Aside0.mk (Kd.R_mono (Kd.R_told (Kd.R_told (Kd.R_old (Kd.R_mv HO319) hb) (Kd.R_base ho1)) (Kd.R_base ho2)) (fun _ h_ => h_.1))
      have n14_ := Aside0.mk (Kd.R_mono (Kd.R_told (Kd.R_told (Kd.R_old (Kd.R_mv HO322) hb) (Kd.R_base ho1)) (Kd.R_base ho2)) (fun _ h_ => h_.1))
      have n15_ := Aside0.mk (Kd.S_mono (Kd.S_told (Kd.S_told (Kd.S_told (Kd.S_old (Kd.S_mv HO325) hb) (Kd.R_base ho1)) (Kd.R_base ho2)) (Kd.S_base ho3)) (fun _ h_ => h_.1))
      have n16_ := Aside0.mk (Kd.R_lower (Kd.R_new' (Kd.R_new' (Kd.R_new' (Kd.R_new' (Kd.R_new' (Kd.R_new' (Kd.R_new' (Kd.R_new' (Kd.R_new' (Kd.R_new' (Kd.R_new' (Kd.R_new' (Kd.R_new' (Kd.R_new' (Kd.R_new' (Kd.R_new' ho0 (Kd.R_lt (Kd.R_mv HO270))) (Kd.R_lt (Kd.R_mv HO275))) (Kd.R_lt (Kd.R_mv HO278))) (Kd.S_lt (Kd.S_mv HO281))) (Kd.R_lt (Kd.R_mv HO284))) (Kd.R_lt (Kd.R_mv HO289))) (Kd.R_lt (Kd.R_mv HO292))) (Kd.S_lt (Kd.S_mv HO295))) (Kd.R_lt (Kd.R_mv HO299))) (Kd.R_lt (Kd.R_mv HO304))) (Kd.R_lt (Kd.R_mv HO307))) (Kd.S_lt (Kd.S_mv HO310))) (Kd.R_lt (Kd.R_mv HO314))) (Kd.R_lt (Kd.R_mv HO319))) (Kd.R_lt (Kd.R_mv HO322))) (Kd.S_lt (Kd.S_mv HO325))) (below_size (by repeat (first | (with_reducible first | exact HB.out | apply below_alloc | apply pw_below_drewN | apply below_drew1 | refine below_set ?_ GE264.out | refine below_set ?_ GE265.out | refine below_set ?_ GE311.out | refine below_set ?_ GE326.out) | exact HB.out))))
      have n17_ := Aside0.mk (Kd.R_lower (Kd.R_new' (Kd.R_new' (Kd.R_new' (Kd.R_new' (Kd.R_new' (Kd.R_new' (Kd.R_new' (Kd.R_new' ho1 (Kd.R_lt (Kd.R_mv HO275))) (Kd.R_lt (Kd.R_mv HO278))) (Kd.R_lt (Kd.R_mv HO289))) (Kd.R_lt (Kd.R_mv HO292))) (Kd.R_lt (Kd.R_mv HO304))) (Kd.R_lt (Kd.R_mv HO307))) (Kd.R_lt (Kd.R_mv HO319))) (Kd.R_lt (Kd.R_mv HO322))) (below_size (by repeat (first | (with_reducible first | exact HB.out | apply below_alloc | apply pw_below_drewN | apply below_drew1 | refine below_set ?_ GE264.out | refine below_set ?_ GE265.out | refine below_set ?_ GE311.out | refine below_set ?_ GE326.out) | exact HB.out))))
      have n18_ := Aside0.mk (Kd.R_lower (Kd.R_new' (Kd.R_new' (Kd.R_new' (Kd.R_new' (Kd.R_new' (Kd.R_new' (Kd.R_new' (Kd.R_new' ho2 (Kd.R_lt (Kd.R_mv HO275))) (Kd.R_lt (Kd.R_mv HO278))) (Kd.R_lt (Kd.R_mv HO289))) (Kd.R_lt (Kd.R_mv HO292))) (Kd.R_lt (Kd.R_mv HO304))) (Kd.R_lt (Kd.R_mv HO307))) (Kd.R_lt (Kd.R_mv HO319))) (Kd.R_lt (Kd.R_mv HO322))) (below_size (by repeat (first | (with_reducible first | exact HB.out | apply below_alloc | apply pw_below_drewN | apply below_drew1 | refine below_set ?_ GE264.out | refine below_set ?_ GE265.out | refine below_set ?_ GE311.out | refine below_set ?_ GE326.out) | exact HB.out))))
      have n19_ := Aside0.mk (Kd.S_lower (Kd.S_new' (Kd.S_new' (Kd.S_new' (Kd.S_new' (Kd.S_new' (Kd.S_new' (Kd.S_new' (Kd.S_new' (Kd.S_new' (Kd.S_new' (Kd.S_new' (Kd.S_new' ho3 (Kd.R_lt (Kd.R_mv HO275))) (Kd.R_lt (Kd.R_mv HO278))) (Kd.S_lt (Kd.S_mv HO281))) (Kd.R_lt (Kd.R_mv HO289))) (Kd.R_lt (Kd.R_mv HO292))) (Kd.S_lt (Kd.S_mv HO295))) (Kd.R_lt (Kd.R_mv HO304))) (Kd.R_lt (Kd.R_mv HO307))) (Kd.S_lt (Kd.S_mv HO310))) (Kd.R_lt (Kd.R_mv HO319))) (Kd.R_lt (Kd.R_mv HO322))) (Kd.S_lt (Kd.S_mv HO325))) (below_size (by repeat (first | (with_reducible first | exact HB.out | apply below_alloc | apply pw_below_drewN | apply below_drew1 | refine below_set ?_ GE264.out | refine below_set ?_ GE265.out | refine below_set ?_ GE311.out | refine below_set ?_ GE326.out) | exact HB.out))))
      have n20_ := Aside0.mk (blk_below (g := gb264) (o := .cells #[.slice A0_0 l0_0.length c0_0, .int .i64 a0_1, .int .i64 a0_2, .slice A0_3 l0_3.length c0_3, .slice A0_4 l0_4.length c0_4, .slice A0_5 l0_5.length c0_5] 79 (0, 0)) (blk_mv BK264) hb)
      have n21_ := Aside0.mk (blk_below (g := gb265) (o := .cells #[.slice A1_0 l1_0.length c1_0, .int .i64 a1_1, .int .i64 a1_2, .slice A1_3 l1_3.length c1_3, .slice A1_4 l1_4.length c1_4, .slice A1_5 l1_5.length c1_5] 79 (0, 0)) (blk_mv BK265) hb)
      have n22_ := Aside0.mk (blk_below (g := gb311) (o := .cells #[.slice Ao46 t297.length co46, .int .i64 t300, .int .i64 t301, .slice Ao50 t302.length co50, .slice Ao51 t305.length co51, .slice Ao52 t308.length co52] 84 (0, 0)) (blk_mv BK311) hb)
      have n23_ := Aside0.mk (blk_below (g := gb326) (o := .cells #[.slice Ao56 t312.length co56, .int .i64 t315, .int .i64 t316, .slice Ao61 t317.length co61, .slice Ao62 t320.length co62, .slice Ao63 t323.length co63] 84 (0, 0)) (blk_mv BK326) hb)
      have n24_ := Aside0.mk (below_step (by repeat (first | (with_reducible first | exact HB.out | apply below_alloc | apply pw_below_drewN | apply below_drew1 | refine below_set ?_ GE264.out | refine below_set ?_ GE265.out | refine below_set ?_ GE311.out | refine below_set ?_ GE326.out) | exact HB.out)) hb)
      clear HO270
      clear HO275
      clear HO278
      clear HO281
      clear HO284
      clear HO289
      clear HO292
      clear HO295
      clear HO299
      clear HO304
      clear HO307
      clear HO310
      clear HO314
      clear HO319
      clear HO322
      clear HO325
      clear BK264
      clear BK265
      clear BK311
      clear BK326
      clear HB
      have HO270 := n0_
      have HO275 := n1_
      have HO278 := n2_
      have HO281 := n3_
      have HO284 := n4_
      have HO289 := n5_
      have HO292 := n6_
      have HO295 := n7_
      have HO299 := n8_
      have HO304 := n9_
      have HO307 := n10_
      have HO310 := n11_
      have HO314 := n12_
      have HO319 := n13_
      have HO322 := n14_
      have HO325 := n15_
      have HO330 := n16_
      have HO335 := n17_
      have HO338 := n18_
      have HO341 := n19_
      have BK264 := n20_
      have BK265 := n21_
      have BK311 := n22_
      have BK326 := n23_
      have HB := n24_
      clear n0_ n1_ n2_ n3_ n4_ n5_ n6_ n7_ n8_ n9_ n10_ n11_ n12_ n13_ n14_ n15_ n16_ n17_ n18_ n19_ n20_ n21_ n22_ n23_ n24_
      (try clear hb)
      (try clear hb2)
      (try clear hk)
      (try clear hi)
      (try clear ho0)
      (try clear ho1)
      (try clear ho2)
      (try clear ho3)
      obtain ⟨Ao68, co68, eo68⟩ := Kd.R_slice HO330.out
      (first | subst eo68 | (injection eo68 with f1_ f2_ f3_; have f4_ := f1_.symm; have f5_ := f3_.symm; clear f1_ f2_ f3_; subst f4_; subst f5_))
      obtain ⟨Ao69, co69, eo69⟩ := Kd.R_slice HO335.out
      (first | subst eo69 | (injection eo69 with f1_ f2_ f3_; have f4_ := f1_.symm; have f5_ := f3_.symm; clear f1_ f2_ f3_; subst f4_; subst f5_))
      obtain ⟨Ao70, co70, eo70⟩ := Kd.R_slice HO338.out
      (first | subst eo70 | (injection eo70 with f1_ f2_ f3_; have f4_ := f1_.symm; have f5_ := f3_.symm; clear f1_ f2_ f3_; subst f4_; subst f5_))
      obtain ⟨Ao71, co71, eo71⟩ := Kd.S_slice HO341.out
      (first | subst eo71 | (injection eo71 with f1_ f2_ f3_; have f4_ := f1_.symm; have f5_ := f3_.symm; clear f1_ f2_ f3_; subst f4_; subst f5_))
      refine hK.out _ _ ⟨(blk_cell BK311.out 0).trans rfl, (blk_cell BK311.out 1).trans rfl, (blk_cell BK311.out 2).trans rfl, (blk_cell BK311.out 3).trans rfl, (blk_cell BK311.out 4).trans rfl, (blk_cell BK311.out 5).trans rfl, (blk_cell BK264.out 0).trans rfl, (blk_cell BK264.out 1).trans rfl, (blk_cell BK264.out 2).trans rfl, (blk_cell BK264.out 3).trans rfl, (blk_cell BK264.out 4).trans rfl, (blk_cell BK264.out 5).trans rfl⟩ (fun hHeld => ?_)
      clear hK K
      refine norm_ (a' := ?_) ?_ ?_
      rotate_left
      ·show Act.put _ (some 37) _ = _
       simp only [Act.put, List.setIfInBounds_toArray, List.set_cons_zero, List.set_cons_succ, i64_w, i32_w]
       rfl
      refine one_ (i := 3) (N := some 38) #[true, true, true, true, false] rfl rfl (by kernel_rfl) (by decide) (fun K hK => ?_)
      refine goes_ Try.func51 (by kernel_rfl) rfl #[.agg #[.slice Ao46 t297.length co46, .int .i64 t300, .int .i64 t301, .slice Ao50 t302.length co50, .slice Ao51 t305.length co51, .slice Ao52 t308.length co52], .agg #[.slice Ao68 t328.length co68, .int .i64 t331, .int .i64 t332, .slice Ao69 t333.length co69, .slice Ao70 t336.length co70, .slice Ao71 t339.length co71]] (by rfl) rfl rfl (by (try simp only [List.map_toArray, List.map_cons, List.map_nil]); first | done | rfl | (simp only [List.length_drop, List.length_take]; rfl)) ?_
      with_reducible refine (laws_eqProof.calls k _ _ t297 t300 t301 _ _ t302 _ _ t305 _ _ t308 _ _ t328 t331 t332 _ _ t333 _ _ t336 _ _ t339 true _ ?side1 ?side2 ?side3 ?side4 ?side5 ?side6 ?side7 ?side8 ?side9 ?side10 ?side11 ?side12 ?side13 ?side14 ?side15 ?side16 A25.out).mono ?_
      (case side1 => repeat (first | exact (Kd.R_reads' HO299.out).2.2 | (with_reducible refine Kd.C_alloc ?_ _) | (with_reducible refine Kd.C_drewN ?_ _) | (with_reducible refine Kd.C_drew ?_)))
      (case side2 => exact (Kd.R_reads' HO299.out).2.1)
      (case side3 => repeat (first | exact (Kd.R_reads' HO304.out).2.2 | (with_reducible refine Kd.C_alloc ?_ _) | (with_reducible refine Kd.C_drewN ?_ _) | (with_reducible refine Kd.C_drew ?_)))
      (case side4 => exact (Kd.R_reads' HO304.out).2.1)
      (case side5 => repeat (first | exact (Kd.R_reads' HO307.out).2.2 | (with_reducible refine Kd.C_alloc ?_ _) | (with_reducible refine Kd.C_drewN ?_ _) | (with_reducible refine Kd.C_drew ?_)))
      (case side6 => exact (Kd.R_reads' HO307.out).2.1)
      (case side7 => repeat (first | exact (Kd.S_reads' HO310.out).2.2 | (with_reducible refine Kd.C_alloc ?_ _) | (with_reducible refine Kd.C_drewN ?_ _) | (with_reducible refine Kd.C_drew ?_)))
      (case side8 => exact (Kd.S_reads' HO310.out).2.1)
      (case side9 => repeat (first | exact (Kd.R_reads' HO330.out).2.2 | (with_reducible refine Kd.C_alloc ?_ _) | (with_reducible refine Kd.C_drewN ?_ _) | (with_reducible refine Kd.C_drew ?_)))
      (case side10 => exact (Kd.R_reads' HO330.out).2.1)
      (case side11 => repeat (first | exact (Kd.R_reads' HO335.out).2.2 | (with_reducible refine Kd.C_alloc ?_ _) | (with_reducible refine Kd.C_drewN ?_ _) | (with_reducible refine Kd.C_drew ?_)))
      (case side12 => exact (Kd.R_reads' HO335.out).2.1)
      (case side13 => repeat (first | exact (Kd.R_reads' HO338.out).2.2 | (with_reducible refine Kd.C_alloc ?_ _) | (with_reducible refine Kd.C_drewN ?_ _) | (with_reducible refine Kd.C_drew ?_)))
      (case side14 => exact (Kd.R_reads' HO338.out).2.1)
      (case side15 => repeat (first | exact (Kd.S_reads' HO341.out).2.2 | (with_reducible refine Kd.C_alloc ?_ _) | (with_reducible refine Kd.C_drewN ?_ _) | (with_reducible refine Kd.C_drew ?_)))
      (case side16 => exact (Kd.S_reads' HO341.out).2.1)
      rintro e w72 ⟨rfl, hb⟩
      refine ⟨_, rfl, ?_⟩
      have n0_ := Aside0.mk (Kd.R_below (Kd.R_mv HO270) hb)
      have n1_ := Aside0.mk (Kd.R_below (Kd.R_mv HO275) hb)
      have n2_ := Aside0.mk (Kd.R_below (Kd.R_mv HO278) hb)
      have n3_ := Aside0.mk (Kd.S_below (Kd.S_mv HO281) hb)
      have n4_ := Aside0.mk (Kd.R_below (Kd.R_mv HO284) hb)
      have n5_ := Aside0.mk (Kd.R_below (Kd.R_mv HO289) hb)
      have n6_ := Aside0.mk (Kd.R_below (Kd.R_mv HO292) hb)
      have n7_ := Aside0.mk (Kd.S_below (Kd.S_mv HO295) hb)
      have n8_ := Aside0.mk (Kd.R_below (Kd.R_mv HO299) hb)
      have n9_ := Aside0.mk (Kd.R_below (Kd.R_mv HO304) hb)
      have n10_ := Aside0.mk (Kd.R_below (Kd.R_mv HO307) hb)
      have n11_ := Aside0.mk (Kd.S_below (Kd.S_mv HO310) hb)
      have n12_ := Aside0.mk (Kd.R_below (Kd.R_mv HO314) hb)
      have n13_ := Aside0.mk (Kd.R_below (Kd.R_mv HO319) hb)
      have n14_ := Aside0.mk (Kd.R_below (Kd.R_mv HO322) hb)
      have n15_ := Aside0.mk (Kd.S_below (Kd.S_mv HO325) hb)
      have n16_ := Aside0.mk (Kd.R_below (Kd.R_mv HO330) hb)
      have n17_ := Aside0.mk (Kd.R_below (Kd.R_mv HO335) hb)
      have n18_ := Aside0.mk (Kd.R_below (Kd.R_mv HO338) hb)
      have n19_ := Aside0.mk (Kd.S_below (Kd.S_mv HO341) hb)
      have n20_ := Aside0.mk (blk_below (g := gb264) (o := .cells #[.slice A0_0 l0_0.length c0_0, .int .i64 a0_1, .int .i64 a0_2, .slice A0_3 l0_3.length c0_3, .slice A0_4 l0_4.length c0_4, .slice A0_5 l0_5.length c0_5] 79 (0, 0)) (blk_mv BK264) hb)
      have n21_ := Aside0.mk (blk_below (g := gb265) (o := .cells #[.slice A1_0 l1_0.length c1_0, .int .i64 a1_1, .int .i64 a1_2, .slice A1_3 l1_3.length c1_3, .slice A1_4 l1_4.length c1_4, .slice A1_5 l1_5.length c1_5] 79 (0, 0)) (blk_mv BK265) hb)
      have n22_ := Aside0.mk (blk_below (g := gb311) (o := .cells #[.slice Ao46 t297.length co46, .int .i64 t300, .int .i64 t301, .slice Ao50 t302.length co50, .slice Ao51 t305.length co51, .slice Ao52 t308.length co52] 84 (0, 0)) (blk_mv BK311) hb)
      have n23_ := Aside0.mk (blk_below (g := gb326) (o := .cells #[.slice Ao56 t312.length co56, .int .i64 t315, .int .i64 t316, .slice Ao61 t317.length co61, .slice Ao62 t320.length co62, .slice Ao63 t323.length co63] 84 (0, 0)) (blk_mv BK326) hb)
      have n24_ := Aside0.mk (below_step (by repeat (first | (with_reducible first | exact HB.out | apply below_alloc | apply pw_below_drewN | apply below_drew1 | refine below_set ?_ GE264.out | refine below_set ?_ GE265.out | refine below_set ?_ GE311.out | refine below_set ?_ GE326.out) | exact HB.out)) hb)
      clear HO270
      clear HO275
      clear HO278
      clear HO281
      clear HO284
      clear HO289
      clear HO292
      clear HO295
      clear HO299
      clear HO304
      clear HO307
      clear HO310
      clear HO314
      clear HO319
      clear HO322
      clear HO325
      clear HO330
      clear HO335
      clear HO338
      clear HO341
      clear BK264
      clear BK265
      clear BK311
      clear BK326
      clear HB
      have HO270 := n0_
      have HO275 := n1_
      have HO278 := n2_
      have HO281 := n3_
      have HO284 := n4_
      have HO289 := n5_
      have HO292 := n6_
      have HO295 := n7_
      have HO299 := n8_
      have HO304 := n9_
      have HO307 := n10_
      have HO310 := n11_
      have HO314 := n12_
      have HO319 := n13_
      have HO322 := n14_
      have HO325 := n15_
      have HO330 := n16_
      have HO335 := n17_
      have HO338 := n18_
      have HO341 := n19_
      have BK264 := n20_
      have BK265 := n21_
      have BK311 := n22_
      have BK326 := n23_
      have HB := n24_
      clear n0_ n1_ n2_ n3_ n4_ n5_ n6_ n7_ n8_ n9_ n10_ n11_ n12_ n13_ n14_ n15_ n16_ n17_ n18_ n19_ n20_ n21_ n22_ n23_ n24_
      (try clear hb)
      (try clear hb2)
      (try clear hk)
      (try clear hi)
      refine hK.out _ _ ⟨(blk_cell BK311.out 0).trans rfl, (blk_cell BK311.out 1).trans rfl, (blk_cell BK311.out 2).trans rfl, (blk_cell BK311.out 3).trans rfl, (blk_cell BK311.out 4).trans rfl, (blk_cell BK311.out 5).trans rfl, (blk_cell BK264.out 0).trans rfl, (blk_cell BK264.out 1).trans rfl, (blk_cell BK264.out 2).trans rfl, (blk_cell BK264.out 3).trans rfl, (blk_cell BK264.out 4).trans rfl, (blk_cell BK264.out 5).trans rfl⟩ (fun hHeld => ?_)
      clear hK K
      refine norm_ (a' := ?_) ?_ ?_
      rotate_left
      ·show Act.put _ (some 38) _ = _
       simp only [Act.put, List.setIfInBounds_toArray, List.set_cons_zero, List.set_cons_succ, i64_w, i32_w]
       rfl
      refine pure_ (i := 4) (N := some 39) (v := ?_) (a' := ?_) #[true, true, true, true, true] rfl rfl (by kernel_rfl) (fun _ _ _ h => h) (Or.inl ⟨by rfl, ?_⟩) ?_ ?_
      rotate_left
      ·intro w'
       go_simp
       with_reducible rfl
      rotate_left
      ·simp only [Act.put, List.setIfInBounds_toArray, List.set_cons_zero, List.set_cons_succ, i64_w, i32_w]
       rfl
      refine done_ (by kernel_rfl) ?_
      try go_wp2
      have n0_ := Aside0.mk (Kd.R_drew HO270.out)
      have n1_ := Aside0.mk (Kd.R_drew HO275.out)
      have n2_ := Aside0.mk (Kd.R_drew HO278.out)
      have n3_ := Aside0.mk (Kd.S_drew HO281.out)
      have n4_ := Aside0.mk (Kd.R_drew HO284.out)
      have n5_ := Aside0.mk (Kd.R_drew HO289.out)
      have n6_ := Aside0.mk (Kd.R_drew HO292.out)
      have n7_ := Aside0.mk (Kd.S_drew HO295.out)
      have n8_ := Aside0.mk (Kd.R_drew HO299.out)
      have n9_ := Aside0.mk (Kd.R_drew HO304.out)
      have n10_ := Aside0.mk (Kd.R_drew HO307.out)
      have n11_ := Aside0.mk (Kd.S_drew HO310.out)
      have n12_ := Aside0.mk (Kd.R_drew HO314.out)
      have n13_ := Aside0.mk (Kd.R_drew HO319.out)
      have n14_ := Aside0.mk (Kd.R_drew HO322.out)
      have n15_ := Aside0.mk (Kd.S_drew HO325.out)
      have n16_ := Aside0.mk (Kd.R_drew HO330.out)
      have n17_ := Aside0.mk (Kd.R_drew HO335.out)
      have n18_ := Aside0.mk (Kd.R_drew HO338.out)
      have n19_ := Aside0.mk (Kd.S_drew HO341.out)
      have n20_ := Aside0.mk (blk_drew BK264.out)
      have n21_ := Aside0.mk (blk_drew BK265.out)
      have n22_ := Aside0.mk (blk_drew BK311.out)
      have n23_ := Aside0.mk (blk_drew BK326.out)
      have n24_ := Aside0.mk (below_drew1 HB.out)
      clear HO270
      clear HO275
      clear HO278
      clear HO281
      clear HO284
      clear HO289
      clear HO292
      clear HO295
      clear HO299
      clear HO304
      clear HO307
      clear HO310
      clear HO314
      clear HO319
      clear HO322
      clear HO325
      clear HO330
      clear HO335
      clear HO338
      clear HO341
      clear BK264
      clear BK265
      clear BK311
      clear BK326
      clear HB
      have HO270 := n0_
      have HO275 := n1_
      have HO278 := n2_
      have HO281 := n3_
      have HO284 := n4_
      have HO289 := n5_
      have HO292 := n6_
      have HO295 := n7_
      have HO299 := n8_
      have HO304 := n9_
      have HO307 := n10_
      have HO310 := n11_
      have HO314 := n12_
      have HO319 := n13_
      have HO322 := n14_
      have HO325 := n15_
      have HO330 := n16_
      have HO335 := n17_
      have HO338 := n18_
      have HO341 := n19_
      have BK264 := n20_
      have BK265 := n21_
      have BK311 := n22_
      have BK326 := n23_
      have HB := n24_
      clear n0_ n1_ n2_ n3_ n4_ n5_ n6_ n7_ n8_ n9_ n10_ n11_ n12_ n13_ n14_ n15_ n16_ n17_ n18_ n19_ n20_ n21_ n22_ n23_ n24_
      refine start_ (n := 5) (S := fun w' => w'.cell? ⟨gb326, 0, none⟩ = some (.slice Ao56 t312.length co56) ∧ w'.cell? ⟨gb326, 1, none⟩ = some (.int .i64 t315) ∧ w'.cell? ⟨gb326, 2, none⟩ = some (.int .i64 t316) ∧ w'.cell? ⟨gb326, 3, none⟩ = some (.slice Ao61 t317.length co61) ∧ w'.cell? ⟨gb326, 4, none⟩ = some (.slice Ao62 t320.length co62) ∧ w'.cell? ⟨gb326, 5, none⟩ = some (.slice Ao63 t323.length co63) ∧ w'.cell? ⟨gb265, 0, none⟩ = some (.slice A1_0 l1_0.length c1_0) ∧ w'.cell? ⟨gb265, 1, none⟩ = some (.int .i64 a1_1) ∧ w'.cell? ⟨gb265, 2, none⟩ = some (.int .i64 a1_2) ∧ w'.cell? ⟨gb265, 3, none⟩ = some (.slice A1_3 l1_3.length c1_3) ∧ w'.cell? ⟨gb265, 4, none⟩ = some (.slice A1_4 l1_4.length c1_4) ∧ w'.cell? ⟨gb265, 5, none⟩ = some (.slice A1_5 l1_5.length c1_5)) (ds := []) #[false, false, false, false, false] (by kernel_rfl) rfl rfl ⟨(blk_cell BK326.out 0).trans rfl, (blk_cell BK326.out 1).trans rfl, (blk_cell BK326.out 2).trans rfl, (blk_cell BK326.out 3).trans rfl, (blk_cell BK326.out 4).trans rfl, (blk_cell BK326.out 5).trans rfl, (blk_cell BK265.out 0).trans rfl, (blk_cell BK265.out 1).trans rfl, (blk_cell BK265.out 2).trans rfl, (blk_cell BK265.out 3).trans rfl, (blk_cell BK265.out 4).trans rfl, (blk_cell BK265.out 5).trans rfl⟩ (fun hHeld => ?_)
      generalize w72.drew = w73 at HO270 HO275 HO278 HO281 HO284 HO289 HO292 HO295 HO299 HO304 HO307 HO310 HO314 HO319 HO322 HO325 HO330 HO335 HO338 HO341 BK264 BK265 BK311 BK326 HB hHeld ⊢
      refine take_ (i := 0) (N := some 40) (v := ?_) (a' := ?_) #[true, false, false, false, false] rfl rfl (by kernel_rfl) (fun _ _ _ h => h) (Or.inl ⟨by rfl, ?_⟩) hHeld ?_ ?_
      rotate_left
      ·rintro w' ⟨s0, s1, s2, s3, s4, s5, s6, s7, s8, s9, s10, s11⟩
       go_simp
       with_reducible rfl
      rotate_left
      ·simp only [Act.put, List.setIfInBounds_toArray, List.set_cons_zero, List.set_cons_succ, i64_w, i32_w]
       rfl
      refine take_ (i := 1) (N := some 41) (v := ?_) (a' := ?_) #[true, true, false, false, false] rfl rfl (by kernel_rfl) (fun _ _ _ h => h) (Or.inl ⟨by rfl, ?_⟩) hHeld ?_ ?_
      rotate_left
      ·rintro w' ⟨s0, s1, s2, s3, s4, s5, s6, s7, s8, s9, s10, s11⟩
       go_simp
       with_reducible rfl
      rotate_left
      ·simp only [Act.put, List.setIfInBounds_toArray, List.set_cons_zero, List.set_cons_succ, i64_w, i32_w]
       rfl
      refine one_ (i := 2) (N := some 42) #[true, true, true, false, false] rfl rfl (by kernel_rfl) (by decide) (fun K hK => ?_)
      refine goes_ Try.func49 (by kernel_rfl) rfl #[.agg #[.slice A1_0 l1_0.length c1_0, .int .i64 a1_1, .int .i64 a1_2, .slice A1_3 l1_3.length c1_3, .slice A1_4 l1_4.length c1_4, .slice A1_5 l1_5.length c1_5]] (by rfl) rfl rfl (by (try simp only [List.map_toArray, List.map_cons, List.map_nil]); first | done | rfl | (simp only [List.length_drop, List.length_take]; rfl)) ?_
      with_reducible refine (laws_toProof.calls k _ _ l1_0 a1_1 a1_2 _ _ l1_3 _ _ l1_4 _ _ l1_5 t343 t346 t347 t348 t351 t354 _ ?side1 ?side2 ?side3 ?side4 ?side5 ?side6 ?side7 ?side8 A27.out).mono ?_
      (case side1 => repeat (first | exact (Kd.C_below HR1_0.out HB.out) | (with_reducible refine Kd.C_alloc ?_ _) | (with_reducible refine Kd.C_drewN ?_ _) | (with_reducible refine Kd.C_drew ?_)))
      (case side2 => exact HC1_0.out)
      (case side3 => repeat (first | exact (Kd.C_below HR1_3.out HB.out) | (with_reducible refine Kd.C_alloc ?_ _) | (with_reducible refine Kd.C_drewN ?_ _) | (with_reducible refine Kd.C_drew ?_)))
      (case side4 => exact HC1_3.out)
      (case side5 => repeat (first | exact (Kd.C_below HR1_4.out HB.out) | (with_reducible refine Kd.C_alloc ?_ _) | (with_reducible refine Kd.C_drewN ?_ _) | (with_reducible refine Kd.C_drew ?_)))
      (case side6 => exact HC1_4.out)
      (case side7 => repeat (first | exact (Kd.C_below HR1_5.out HB.out) | (with_reducible refine Kd.C_alloc ?_ _) | (with_reducible refine Kd.C_drewN ?_ _) | (with_reducible refine Kd.C_drew ?_)))
      (case side8 => exact HC1_5.out)
      rintro e w74 ⟨v344, v349, v352, v355, rfl, ho0, ho1, ho2, ho3, hb⟩
      refine ⟨_, rfl, ?_⟩
      have n0_ := Aside0.mk (Kd.R_mono (Kd.R_told (Kd.R_told (Kd.R_told (Kd.R_told (Kd.R_old (Kd.R_mv HO270) hb) (Kd.R_base ho0)) (Kd.R_base ho1)) (Kd.R_base ho2)) (Kd.S_base ho3)) (fun _ h_ => h_.1))
      have n1_ := Aside0.mk (Kd.R_mono (Kd.R_told (Kd.R_told (Kd.R_old (Kd.R_mv HO275) hb) (Kd.R_base ho1)) (Kd.R_base ho2)) (fun _ h_ => h_.1))
      have n2_ := Aside0.mk (Kd.R_mono (Kd.R_told (Kd.R_told (Kd.R_old (Kd.R_mv HO278) hb) (Kd.R_base ho1)) (Kd.R_base ho2)) (fun _ h_ => h_.1))
      have n3_ := Aside0.mk (Kd.S_mono (Kd.S_told (Kd.S_told (Kd.S_told (Kd.S_old (Kd.S_mv HO281) hb) (Kd.R_base ho1)) (Kd.R_base ho2)) (Kd.S_base ho3)) (fun _ h_ => h_.1))
      have n4_ := Aside0.mk (Kd.R_mono (Kd.R_told (Kd.R_told (Kd.R_told (Kd.R_told (Kd.R_old (Kd.R_mv HO284) hb) (Kd.R_base ho0)) (Kd.R_base ho1)) (Kd.R_base ho2)) (Kd.S_base ho3)) (fun _ h_ => h_.1))
      have n5_ := Aside0.mk (Kd.R_mono (Kd.R_told (Kd.R_told (Kd.R_old (Kd.R_mv HO289) hb) (Kd.R_base ho1)) (Kd.R_base ho2)) (fun _ h_ => h_.1))
      have n6_ := Aside0.mk (Kd.R_mono (Kd.R_told (Kd.R_told (Kd.R_old (Kd.R_mv HO292) hb) (Kd.R_base ho1)) (Kd.R_base ho2)) (fun _ h_ => h_.1))
      have n7_ := Aside0.mk (Kd.S_mono (Kd.S_told (Kd.S_told (Kd.S_told (Kd.S_old (Kd.S_mv HO295) hb) (Kd.R_base ho1)) (Kd.R_base ho2)) (Kd.S_base ho3)) (fun _ h_ => h_.1))
      have n8_ := Aside0.mk (Kd.R_mono (Kd.R_told (Kd.R_told (Kd.R_told (Kd.R_told (Kd.R_old (Kd.R_mv HO299) hb) (Kd.R_base ho0)) (Kd.R_base ho1)) (Kd.R_base ho2)) (Kd.S_base ho3)) (fun _ h_ => h_.1))
      have n9_ := Aside0.mk (Kd.R_mono (Kd.R_told (Kd.R_told (Kd.R_old (Kd.R_mv HO304) hb) (Kd.R_base ho1)) (Kd.R_base ho2)) (fun _ h_ => h_.1))
      have n10_ := Aside0.mk (Kd.R_mono (Kd.R_told (Kd.R_told (Kd.R_old (Kd.R_mv HO307) hb) (Kd.R_base ho1)) (Kd.R_base ho2)) (fun _ h_ => h_.1))
      have n11_ := Aside0.mk (Kd.S_mono (Kd.S_told (Kd.S_told (Kd.S_told (Kd.S_old (Kd.S_mv HO310) hb) (Kd.R_base ho1)) (Kd.R_base ho2)) (Kd.S_base ho3)) (fun _ h_ => h_.1))
      have n12_ := Aside0.mk (Kd.R_mono (Kd.R_told (Kd.R_told (Kd.R_told (Kd.R_told (Kd.R_old (Kd.R_mv HO314) hb) (Kd.R_base ho0)) (Kd.R_base ho1)) (Kd.R_base ho2)) (Kd.S_base ho3)) (fun _ h_ => h_.1))
      have n13_ := Aside0.mk (Kd.R_mono (Kd.R_told (Kd.R_told (Kd.R_old (Kd.R_mv HO319) hb) (Kd.R_base ho1)) (Kd.R_base ho2)) (fun _ h_ => h_.1))
      have n14_ := Aside0.mk (Kd.R_mono (Kd.R_told (Kd.R_told (Kd.R_old (Kd.R_mv HO322) hb) (Kd.R_base ho1)) (Kd.R_base ho2)) (fun _ h_ => h_.1))
      have n15_ := Aside0.mk (Kd.S_mono (Kd.S_told (Kd.S_told (Kd.S_told (Kd.S_old (Kd.S_mv HO325) hb) (Kd.R_base ho1)) (Kd.R_base ho2)) (Kd.S_base ho3)) (fun _ h_ => h_.1))
      have n16_ := Aside0.mk (Kd.R_mono (Kd.R_told (Kd.R_told (Kd.R_told (Kd.R_told (Kd.R_old (Kd.R_mv HO330) hb) (Kd.R_base ho0)) (Kd.R_base ho1)) (Kd.R_base ho2)) (Kd.S_base ho3)) (fun _ h_ => h_.1))
      have n17_ := Aside0.mk (Kd.R_mono (Kd.R_told (Kd.R_told (Kd.R_old (Kd.R_mv HO335) hb) (Kd.R_base ho1)) (Kd.R_base ho2)) (fun _ h_ => h_.1))
      have n18_ := Aside0.mk (Kd.R_mono (Kd.R_told (Kd.R_told (Kd.R_old (Kd.R_mv HO338) hb) (Kd.R_base ho1)) (Kd.R_base ho2)) (fun _ h_ => h_.1))
      have n19_ := Aside0.mk (Kd.S_mono (Kd.S_told (Kd.S_told (Kd.S_told (Kd.S_old (Kd.S_mv HO341) hb) (Kd.R_base ho1)) (Kd.R_base ho2)) (Kd.S_base ho3)) (fun _ h_ => h_.1))
      have n20_ := Aside0.mk (Kd.R_lower (Kd.R_new' (Kd.R_new' (Kd.R_new' (Kd.R_new' (Kd.R_new' (Kd.R_new' (Kd.R_new' (Kd.R_new' (Kd.R_new' (Kd.R_new' (Kd.R_new' (Kd.R_new' (Kd.R_new' (Kd.R_new' (Kd.R_new' (Kd.R_new' (Kd.R_new' (Kd.R_new' (Kd.R_new' (Kd.R_new' ho0 (Kd.R_lt (Kd.R_mv HO270))) (Kd.R_lt (Kd.R_mv HO275))) (Kd.R_lt (Kd.R_mv HO278))) (Kd.S_lt (Kd.S_mv HO281))) (Kd.R_lt (Kd.R_mv HO284))) (Kd.R_lt (Kd.R_mv HO289))) (Kd.R_lt (Kd.R_mv HO292))) (Kd.S_lt (Kd.S_mv HO295))) (Kd.R_lt (Kd.R_mv HO299))) (Kd.R_lt (Kd.R_mv HO304))) (Kd.R_lt (Kd.R_mv HO307))) (Kd.S_lt (Kd.S_mv HO310))) (Kd.R_lt (Kd.R_mv HO314))) (Kd.R_lt (Kd.R_mv HO319))) (Kd.R_lt (Kd.R_mv HO322))) (Kd.S_lt (Kd.S_mv HO325))) (Kd.R_lt (Kd.R_mv HO330))) (Kd.R_lt (Kd.R_mv HO335))) (Kd.R_lt (Kd.R_mv HO338))) (Kd.S_lt (Kd.S_mv HO341))) (below_size (by repeat (first | (with_reducible first | exact HB.out | apply below_alloc | apply pw_below_drewN | apply below_drew1 | refine below_set ?_ GE264.out | refine below_set ?_ GE265.out | refine below_set ?_ GE311.out | refine below_set ?_ GE326.out) | exact HB.out))))
      have n21_ := Aside0.mk (Kd.R_lower (Kd.R_new' (Kd.R_new' (Kd.R_new' (Kd.R_new' (Kd.R_new' (Kd.R_new' (Kd.R_new' (Kd.R_new' (Kd.R_new' (Kd.R_new' ho1 (Kd.R_lt (Kd.R_mv HO275))) (Kd.R_lt (Kd.R_mv HO278))) (Kd.R_lt (Kd.R_mv HO289))) (Kd.R_lt (Kd.R_mv HO292))) (Kd.R_lt (Kd.R_mv HO304))) (Kd.R_lt (Kd.R_mv HO307))) (Kd.R_lt (Kd.R_mv HO319))) (Kd.R_lt (Kd.R_mv HO322))) (Kd.R_lt (Kd.R_mv HO335))) (Kd.R_lt (Kd.R_mv HO338))) (below_size (by repeat (first | (with_reducible first | exact HB.out | apply below_alloc | apply pw_below_drewN | apply below_drew1 | refine below_set ?_ GE264.out | refine below_set ?_ GE265.out | refine below_set ?_ GE311.out | refine below_set ?_ GE326.out) | exact HB.out))))
      have n22_ := Aside0.mk (Kd.R_lower (Kd.R_new' (Kd.R_new' (Kd.R_new' (Kd.R_new' (Kd.R_new' (Kd.R_new' (Kd.R_new' (Kd.R_new' (Kd.R_new' (Kd.R_new' ho2 (Kd.R_lt (Kd.R_mv HO275))) (Kd.R_lt (Kd.R_mv HO278))) (Kd.R_lt (Kd.R_mv HO289))) (Kd.R_lt (Kd.R_mv HO292))) (Kd.R_lt (Kd.R_mv HO304))) (Kd.R_lt (Kd.R_mv HO307))) (Kd.R_lt (Kd.R_mv HO319))) (Kd.R_lt (Kd.R_mv HO322))) (Kd.R_lt (Kd.R_mv HO335))) (Kd.R_lt (Kd.R_mv HO338))) (below_size (by repeat (first | (with_reducible first | exact HB.out | apply below_alloc | apply pw_below_drewN | apply below_drew1 | refine below_set ?_ GE264.out | refine below_set ?_ GE265.out | refine below_set ?_ GE311.out | refine below_set ?_ GE326.out) | exact HB.out))))
      have n23_ := Aside0.mk (Kd.S_lower (Kd.S_new' (Kd.S_new' (Kd.S_new' (Kd.S_new' (Kd.S_new' (Kd.S_new' (Kd.S_new' (Kd.S_new' (Kd.S_new' (Kd.S_new' (Kd.S_new' (Kd.S_new' (Kd.S_new' (Kd.S_new' (Kd.S_new' ho3 (Kd.R_lt (Kd.R_mv HO275))) (Kd.R_lt (Kd.R_mv HO278))) (Kd.S_lt (Kd.S_mv HO281))) (Kd.R_lt (Kd.R_mv HO289))) (Kd.R_lt (Kd.R_mv HO292))) (Kd.S_lt (Kd.S_mv HO295))) (Kd.R_lt (Kd.R_mv HO304))) (Kd.R_lt (Kd.R_mv HO307))) (Kd.S_lt (Kd.S_mv HO310))) (Kd.R_lt (Kd.R_mv HO319))) (Kd.R_lt (Kd.R_mv HO322))) (Kd.S_lt (Kd.S_mv HO325))) (Kd.R_lt (Kd.R_mv HO335))) (Kd.R_lt (Kd.R_mv HO338))) (Kd.S_lt (Kd.S_mv HO341))) (below_size (by repeat (first | (with_reducible first | exact HB.out | apply below_alloc | apply pw_below_drewN | apply below_drew1 | refine below_set ?_ GE264.out | refine below_set ?_ GE265.out | refine below_set ?_ GE311.out | refine below_set ?_ GE326.out) | exact HB.out))))
      have n24_ := Aside0.mk (blk_below (g := gb264) (o := .cells #[.slice A0_0 l0_0.length c0_0, .int .i64 a0_1, .int .i64 a0_2, .slice A0_3 l0_3.length c0_3, .slice A0_4 l0_4.length c0_4, .slice A0_5 l0_5.length c0_5] 79 (0, 0)) (blk_mv BK264) hb)
      have n25_ := Aside0.mk (blk_below (g := gb265) (o := .cells #[.slice A1_0 l1_0.length c1_0, .int .i64 a1_1, .int .i64 a1_2, .slice A1_3 l1_3.length c1_3, .slice A1_4 l1_4.length c1_4, .slice A1_5 l1_5.length c1_5] 79 (0, 0)) (blk_mv BK265) hb)
      have n26_ := Aside0.mk (blk_below (g := gb311) (o := .cells #[.slice Ao46 t297.length co46, .int .i64 t300, .int .i64 t301, .slice Ao50 t302.length co50, .slice Ao51 t305.length co51, .slice Ao52 t308.length co52] 84 (0, 0)) (blk_mv BK311) hb)
      have n27_ := Aside0.mk (blk_below (g := gb326) (o := .cells #[.slice Ao56 t312.length co56, .int .i64 t315, .int .i64 t316, .slice Ao61 t317.length co61, .slice Ao62 t320.length co62, .slice Ao63 t323.length co63] 84 (0, 0)) (blk_mv BK326) hb)
      have n28_ := Aside0.mk (below_step (by repeat (first | (with_reducible first | exact HB.out | apply below_alloc | apply pw_below_drewN | apply below_drew1 | refine below_set ?_ GE264.out | refine below_set ?_ GE265.out | refine below_set ?_ GE311.out | refine below_set ?_ GE326.out) | exact HB.out)) hb)
      clear HO270
      clear HO275
      clear HO278
      clear HO281
      clear HO284
      clear HO289
      clear HO292
      clear HO295
      clear HO299
      clear HO304
      clear HO307
      clear HO310
      clear HO314
      clear HO319
      clear HO322
      clear HO325
      clear HO330
      clear HO335
      clear HO338
      clear HO341
      clear BK264
      clear BK265
      clear BK311
      clear BK326
      clear HB
      have HO270 := n0_
      have HO275 := n1_
      have HO278 := n2_
      have HO281 := n3_
      have HO284 := n4_
      have HO289 := n5_
      have HO292 := n6_
      have HO295 := n7_
      have HO299 := n8_
      have HO304 := n9_
      have HO307 := n10_
      have HO310 := n11_
      have HO314 := n12_
      have HO319 := n13_
      have HO322 := n14_
      have HO325 := n15_
      have HO330 := n16_
      have HO335 := n17_
      have HO338 := n18_
      have HO341 := n19_
      have HO345 := n20_
      have HO350 := n21_
      have HO353 := n22_
      have HO356 := n23_
      have BK264 := n24_
      have BK265 := n25_
      have BK311 := n26_
      have BK326 := n27_
      have HB := n28_
      clear n0_ n1_ n2_ n3_ n4_ n5_ n6_ n7_ n8_ n9_ n10_ n11_ n12_ n13_ n14_ n15_ n16_ n17_ n18_ n19_ n20_ n21_ n22_ n23_ n24_ n25_ n26_ n27_ n28_
      (try clear hb)
      (try clear hb2)
      (try clear hk)
      (try clear hi)
      (try clear ho0)
      (try clear ho1)
      (try clear ho2)
      (try clear ho3)
      obtain ⟨Ao75, co75, eo75⟩ := Kd.R_slice HO345.out
      (first | subst eo75 | (injection eo75 with f1_ f2_ f3_; have f4_ := f1_.symm; have f5_ := f3_.symm; clear f1_ f2_ f3_; subst f4_; subst f5_))
      obtain ⟨Ao76, co76, eo76⟩ := Kd.R_slice HO350.out
      (first | subst eo76 | (injection eo76 with f1_ f2_ f3_; have f4_ := f1_.symm; have f5_ := f3_.symm; clear f1_ f2_ f3_; subst f4_; subst f5_))
      obtain ⟨Ao77, co77, eo77⟩ := Kd.R_slice HO353.out
      (first | subst eo77 | (injection eo77 with f1_ f2_ f3_; have f4_ := f1_.symm; have f5_ := f3_.symm; clear f1_ f2_ f3_; subst f4_; subst f5_))
      obtain ⟨Ao78, co78, eo78⟩ := Kd.S_slice HO356.out
      (first | subst eo78 | (injection eo78 with f1_ f2_ f3_; have f4_ := f1_.symm; have f5_ := f3_.symm; clear f1_ f2_ f3_; subst f4_; subst f5_))
      refine hK.out _ _ ⟨(blk_cell BK326.out 0).trans rfl, (blk_cell BK326.out 1).trans rfl, (blk_cell BK326.out 2).trans rfl, (blk_cell BK326.out 3).trans rfl, (blk_cell BK326.out 4).trans rfl, (blk_cell BK326.out 5).trans rfl, (blk_cell BK265.out 0).trans rfl, (blk_cell BK265.out 1).trans rfl, (blk_cell BK265.out 2).trans rfl, (blk_cell BK265.out 3).trans rfl, (blk_cell BK265.out 4).trans rfl, (blk_cell BK265.out 5).trans rfl⟩ (fun hHeld => ?_)
      clear hK K
      refine norm_ (a' := ?_) ?_ ?_
      rotate_left
      ·show Act.put _ (some 42) _ = _
       simp only [Act.put, List.setIfInBounds_toArray, List.set_cons_zero, List.set_cons_succ, i64_w, i32_w]
       rfl
      refine one_ (i := 3) (N := some 43) #[true, true, true, true, false] rfl rfl (by kernel_rfl) (by decide) (fun K hK => ?_)
      refine goes_ Try.func51 (by kernel_rfl) rfl #[.agg #[.slice Ao56 t312.length co56, .int .i64 t315, .int .i64 t316, .slice Ao61 t317.length co61, .slice Ao62 t320.length co62, .slice Ao63 t323.length co63], .agg #[.slice Ao75 t343.length co75, .int .i64 t346, .int .i64 t347, .slice Ao76 t348.length co76, .slice Ao77 t351.length co77, .slice Ao78 t354.length co78]] (by rfl) rfl rfl (by (try simp only [List.map_toArray, List.map_cons, List.map_nil]); first | done | rfl | (simp only [List.length_drop, List.length_take]; rfl)) ?_
      with_reducible refine (laws_eqProof.calls k _ _ t312 t315 t316 _ _ t317 _ _ t320 _ _ t323 _ _ t343 t346 t347 _ _ t348 _ _ t351 _ _ t354 true _ ?side1 ?side2 ?side3 ?side4 ?side5 ?side6 ?side7 ?side8 ?side9 ?side10 ?side11 ?side12 ?side13 ?side14 ?side15 ?side16 A28.out).mono ?_
      (case side1 => repeat (first | exact (Kd.R_reads' HO314.out).2.2 | (with_reducible refine Kd.C_alloc ?_ _) | (with_reducible refine Kd.C_drewN ?_ _) | (with_reducible refine Kd.C_drew ?_)))
      (case side2 => exact (Kd.R_reads' HO314.out).2.1)
      (case side3 => repeat (first | exact (Kd.R_reads' HO319.out).2.2 | (with_reducible refine Kd.C_alloc ?_ _) | (with_reducible refine Kd.C_drewN ?_ _) | (with_reducible refine Kd.C_drew ?_)))
      (case side4 => exact (Kd.R_reads' HO319.out).2.1)
      (case side5 => repeat (first | exact (Kd.R_reads' HO322.out).2.2 | (with_reducible refine Kd.C_alloc ?_ _) | (with_reducible refine Kd.C_drewN ?_ _) | (with_reducible refine Kd.C_drew ?_)))
      (case side6 => exact (Kd.R_reads' HO322.out).2.1)
      (case side7 => repeat (first | exact (Kd.S_reads' HO325.out).2.2 | (with_reducible refine Kd.C_alloc ?_ _) | (with_reducible refine Kd.C_drewN ?_ _) | (with_reducible refine Kd.C_drew ?_)))
      (case side8 => exact (Kd.S_reads' HO325.out).2.1)
      (case side9 => repeat (first | exact (Kd.R_reads' HO345.out).2.2 | (with_reducible refine Kd.C_alloc ?_ _) | (with_reducible refine Kd.C_drewN ?_ _) | (with_reducible refine Kd.C_drew ?_)))
      (case side10 => exact (Kd.R_reads' HO345.out).2.1)
      (case side11 => repeat (first | exact (Kd.R_reads' HO350.out).2.2 | (with_reducible refine Kd.C_alloc ?_ _) | (with_reducible refine Kd.C_drewN ?_ _) | (with_reducible refine Kd.C_drew ?_)))
      (case side12 => exact (Kd.R_reads' HO350.out).2.1)
      (case side13 => repeat (first | exact (Kd.R_reads' HO353.out).2.2 | (with_reducible refine Kd.C_alloc ?_ _) | (with_reducible refine Kd.C_drewN ?_ _) | (with_reducible refine Kd.C_drew ?_)))
      (case side14 => exact (Kd.R_reads' HO353.out).2.1)
      (case side15 => repeat (first | exact (Kd.S_reads' HO356.out).2.2 | (with_reducible refine Kd.C_alloc ?_ _) | (with_reducible refine Kd.C_drewN ?_ _) | (with_reducible refine Kd.C_drew ?_)))
      (case side16 => exact (Kd.S_reads' HO356.out).2.1)
      rintro e w79 ⟨rfl, hb⟩
      refine ⟨_, rfl, ?_⟩
      have n0_ := Aside0.mk (Kd.R_below (Kd.R_mv HO270) hb)
      have n1_ := Aside0.mk (Kd.R_below (Kd.R_mv HO275) hb)
      have n2_ := Aside0.mk (Kd.R_below (Kd.R_mv HO278) hb)
      have n3_ := Aside0.mk (Kd.S_below (Kd.S_mv HO281) hb)
      have n4_ := Aside0.mk (Kd.R_below (Kd.R_mv HO284) hb)
      have n5_ := Aside0.mk (Kd.R_below (Kd.R_mv HO289) hb)
      have n6_ := Aside0.mk (Kd.R_below (Kd.R_mv HO292) hb)
      have n7_ := Aside0.mk (Kd.S_below (Kd.S_mv HO295) hb)
      have n8_ := Aside0.mk (Kd.R_below (Kd.R_mv HO299) hb)
      have n9_ := Aside0.mk (Kd.R_below (Kd.R_mv HO304) hb)
      have n10_ := Aside0.mk (Kd.R_below (Kd.R_mv HO307) hb)
      have n11_ := Aside0.mk (Kd.S_below (Kd.S_mv HO310) hb)
      have n12_ := Aside0.mk (Kd.R_below (Kd.R_mv HO314) hb)
      have n13_ := Aside0.mk (Kd.R_below (Kd.R_mv HO319) hb)
      have n14_ := Aside0.mk (Kd.R_below (Kd.R_mv HO322) hb)
      have n15_ := Aside0.mk (Kd.S_below (Kd.S_mv HO325) hb)
      have n16_ := Aside0.mk (Kd.R_below (Kd.R_mv HO330) hb)
      have n17_ := Aside0.mk (Kd.R_below (Kd.R_mv HO335) hb)
      have n18_ := Aside0.mk (Kd.R_below (Kd.R_mv HO338) hb)
      have n19_ := Aside0.mk (Kd.S_below (Kd.S_mv HO341) hb)
      have n20_ := Aside0.mk (Kd.R_below (Kd.R_mv HO345) hb)
      have n21_ := Aside0.mk (Kd.R_below (Kd.R_mv HO350) hb)
      have n22_ := Aside0.mk (Kd.R_below (Kd.R_mv HO353) hb)
      have n23_ := Aside0.mk (Kd.S_below (Kd.S_mv HO356) hb)
      have n24_ := Aside0.mk (blk_below (g := gb264) (o := .cells #[.slice A0_0 l0_0.length c0_0, .int .i64 a0_1, .int .i64 a0_2, .slice A0_3 l0_3.length c0_3, .slice A0_4 l0_4.length c0_4, .slice A0_5 l0_5.length c0_5] 79 (0, 0)) (blk_mv BK264) hb)
      have n25_ := Aside0.mk (blk_below (g := gb265) (o := .cells #[.slice A1_0 l1_0.length c1_0, .int .i64 a1_1, .int .i64 a1_2, .slice A1_3 l1_3.length c1_3, .slice A1_4 l1_4.length c1_4, .slice A1_5 l1_5.length c1_5] 79 (0, 0)) (blk_mv BK265) hb)
      have n26_ := Aside0.mk (blk_below (g := gb311) (o := .cells #[.slice Ao46 t297.length co46, .int .i64 t300, .int .i64 t301, .slice Ao50 t302.length co50, .slice Ao51 t305.length co51, .slice Ao52 t308.length co52] 84 (0, 0)) (blk_mv BK311) hb)
      have n27_ := Aside0.mk (blk_below (g := gb326) (o := .cells #[.slice Ao56 t312.length co56, .int .i64 t315, .int .i64 t316, .slice Ao61 t317.length co61, .slice Ao62 t320.length co62, .slice Ao63 t323.length co63] 84 (0, 0)) (blk_mv BK326) hb)
      have n28_ := Aside0.mk (below_step (by repeat (first | (with_reducible first | exact HB.out | apply below_alloc | apply pw_below_drewN | apply below_drew1 | refine below_set ?_ GE264.out | refine below_set ?_ GE265.out | refine below_set ?_ GE311.out | refine below_set ?_ GE326.out) | exact HB.out)) hb)
      clear HO270
      clear HO275
      clear HO278
      clear HO281
      clear HO284
      clear HO289
      clear HO292
      clear HO295
      clear HO299
      clear HO304
      clear HO307
      clear HO310
      clear HO314
      clear HO319
      clear HO322
      clear HO325
      clear HO330
      clear HO335
      clear HO338
      clear HO341
      clear HO345
      clear HO350
      clear HO353
      clear HO356
      clear BK264
      clear BK265
      clear BK311
      clear BK326
      clear HB
      have HO270 := n0_
      have HO275 := n1_
      have HO278 := n2_
      have HO281 := n3_
      have HO284 := n4_
      have HO289 := n5_
      have HO292 := n6_
      have HO295 := n7_
      have HO299 := n8_
      have HO304 := n9_
      have HO307 := n10_
      have HO310 := n11_
      have HO314 := n12_
      have HO319 := n13_
      have HO322 := n14_
      have HO325 := n15_
      have HO330 := n16_
      have HO335 := n17_
      have HO338 := n18_
      have HO341 := n19_
      have HO345 := n20_
      have HO350 := n21_
      have HO353 := n22_
      have HO356 := n23_
      have BK264 := n24_
      have BK265 := n25_
      have BK311 := n26_
      have BK326 := n27_
      have HB := n28_
      clear n0_ n1_ n2_ n3_ n4_ n5_ n6_ n7_ n8_ n9_ n10_ n11_ n12_ n13_ n14_ n15_ n16_ n17_ n18_ n19_ n20_ n21_ n22_ n23_ n24_ n25_ n26_ n27_ n28_
      (try clear hb)
      (try clear hb2)
      (try clear hk)
      (try clear hi)
      refine hK.out _ _ ⟨(blk_cell BK326.out 0).trans rfl, (blk_cell BK326.out 1).trans rfl, (blk_cell BK326.out 2).trans rfl, (blk_cell BK326.out 3).trans rfl, (blk_cell BK326.out 4).trans rfl, (blk_cell BK326.out 5).trans rfl, (blk_cell BK265.out 0).trans rfl, (blk_cell BK265.out 1).trans rfl, (blk_cell BK265.out 2).trans rfl, (blk_cell BK265.out 3).trans rfl, (blk_cell BK265.out 4).trans rfl, (blk_cell BK265.out 5).trans rfl⟩ (fun hHeld => ?_)
      clear hK K
      refine norm_ (a' := ?_) ?_ ?_
      rotate_left
      ·show Act.put _ (some 43) _ = _
       simp only [Act.put, List.setIfInBounds_toArray, List.set_cons_zero, List.set_cons_succ, i64_w, i32_w]
       rfl
      refine pure_ (i := 4) (N := some 44) (v := ?_) (a' := ?_) #[true, true, true, true, true] rfl rfl (by kernel_rfl) (fun _ _ _ h => h) (Or.inl ⟨by rfl, ?_⟩) ?_ ?_
      rotate_left
      ·intro w'
       go_simp
       with_reducible rfl
      rotate_left
      ·simp only [Act.put, List.setIfInBounds_toArray, List.set_cons_zero, List.set_cons_succ, i64_w, i32_w]
       rfl
      refine done_ (by kernel_rfl) ?_
      try go_wp2
      go_ret
      exact ⟨by first | rfl | (simp [errW_none, errW_some] <;> rfl) | (simp [*, errW_none, errW_some] <;> rfl), by repeat (first | (with_reducible first | exact HB.out | apply below_alloc | apply pw_below_drewN | apply below_drew1 | refine below_set ?_ GE264.out | refine below_set ?_ GE265.out | refine below_set ?_ GE311.out | refine below_set ?_ GE326.out) | exact HB.out)⟩
     ·replace c29 := Bool.eq_false_iff.mpr c29
      subst c29
      have H1 : (none) = some r := by rw [if_neg (show ¬ (false = true) by decide)] at H; exact H
      clear H
      have H := H1
      clear H1
      exact absurd H (by simp)
    ·replace c26 := Bool.eq_false_iff.mpr c26
     subst c26
     have H1 : (none) = some r := by rw [if_neg (show ¬ (false = true) by decide)] at H; exact H
     clear H
     have H := H1
     clear H1
     exact absurd H (by simp)

end Go.Proofs.Ytniapflmmigbjaa.PFnExactProofSame
