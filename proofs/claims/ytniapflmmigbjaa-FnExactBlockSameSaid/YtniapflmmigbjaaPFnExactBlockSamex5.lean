-- by a program of this session (wip/gen), out of the translation. Not trusted: Lean checks it.
import Derived.Test.YtniapflmmigbjaaPFnExactBlockSamex0
import Derived.Test.YtniapflmmigbjaaPFnExactBlockSamex1
import Derived.Test.YtniapflmmigbjaaPFnExactBlockSamex2
import Derived.Test.YtniapflmmigbjaaPFnExactBlockSamex3
import Derived.Test.YtniapflmmigbjaaPFnExactBlockSamex4
namespace Go.Proofs.Ytniapflmmigbjaa.PFnExactBlockSame
open Go.RowKit Go.Proofs.YtniapflmmigbjaaW.PrintWords Go.Proofs.YtniapflmmigbjaaW.PrintLast Go.Proofs.YtniapflmmigbjaaW.PrintMore
attribute [local go_sem] max2_int min2_int max_two min_two max_three min_three max_four min_four   -- for this text's walks alone
set_option linter.unusedVariables false
set_option linter.unusedSimpArgs false

/-! ### laws_FnExactBlockSame: function 7 -/
def laws_FnExactBlockSame.f (k : Nat) (a0_0 : Int) (a0_1 : Int) (a0_2 : Int) (l0_3 : List Int) (l0_4 : List Int) (a0_5 : Int) (a0_6 : Int) (l0_7 : List Int) (l0_8 : List Int) (l0_9 : List (List Int)) (l0_10 : List (List Int)) (a1_0 : Int) (a1_1 : Int) (a1_2 : Int) (l1_3 : List Int) (l1_4 : List Int) (a1_5 : Int) (a1_6 : Int) (l1_7 : List Int) (l1_8 : List Int) (l1_9 : List (List Int)) (l1_10 : List (List Int)) : Option (Bool) := (laws_szBlock.f k a0_0 a0_1 a0_2 l0_3 l0_4 a0_5 a0_6 l0_7 l0_8 l0_9 l0_10 1048576).bind fun t240 => (if t240 < 0 then (some true) else ((laws_szBlock.f k a1_0 a1_1 a1_2 l1_3 l1_4 a1_5 a1_6 l1_7 l1_8 l1_9 l1_10 t240).bind fun t241 => (if t241 < 0 then (some true) else ((laws_toBlock.f k a0_0 a0_1 a0_2 l0_3 l0_4 a0_5 a0_6 l0_7 l0_8 l0_9 l0_10).bind fun bt242 => ((laws_toBlock.f k a1_0 a1_1 a1_2 l1_3 l1_4 a1_5 a1_6 l1_7 l1_8 l1_9 l1_10).bind fun bt265 => ((spec_BlockSame.f k bt242.1 bt242.2.1 bt242.2.2.1 bt242.2.2.2.1 bt242.2.2.2.2.1 bt242.2.2.2.2.2.1 bt242.2.2.2.2.2.2.1 bt242.2.2.2.2.2.2.2.1 bt242.2.2.2.2.2.2.2.2.1 bt242.2.2.2.2.2.2.2.2.2.1 bt242.2.2.2.2.2.2.2.2.2.2 bt265.1 bt265.2.1 bt265.2.2.1 bt265.2.2.2.1 bt265.2.2.2.2.1 bt265.2.2.2.2.2.1 bt265.2.2.2.2.2.2.1 bt265.2.2.2.2.2.2.2.1 bt265.2.2.2.2.2.2.2.2.1 bt265.2.2.2.2.2.2.2.2.2.1 bt265.2.2.2.2.2.2.2.2.2.2).bind fun t288 => ((laws_toBlock.f k a0_0 a0_1 a0_2 l0_3 l0_4 a0_5 a0_6 l0_7 l0_8 l0_9 l0_10).bind fun bt289 => ((laws_toBlock.f k a1_0 a1_1 a1_2 l1_3 l1_4 a1_5 a1_6 l1_7 l1_8 l1_9 l1_10).bind fun bt313 => ((impl_BlockSame.f k bt289.1 bt289.2.1 bt289.2.2.1 bt289.2.2.2.1 bt289.2.2.2.2.1 bt289.2.2.2.2.2.1 bt289.2.2.2.2.2.2.1 bt289.2.2.2.2.2.2.2.1 bt289.2.2.2.2.2.2.2.2.1 bt289.2.2.2.2.2.2.2.2.2.1 bt289.2.2.2.2.2.2.2.2.2.2 bt313.1 bt313.2.1 bt313.2.2.1 bt313.2.2.2.1 bt313.2.2.2.2.1 bt313.2.2.2.2.2.1 bt313.2.2.2.2.2.2.1 bt313.2.2.2.2.2.2.2.1 bt313.2.2.2.2.2.2.2.2.1 bt313.2.2.2.2.2.2.2.2.2.1 bt313.2.2.2.2.2.2.2.2.2.2).bind fun t337 => (if (t337 != t288) = true then (none) else ((laws_toBlock.f k a0_0 a0_1 a0_2 l0_3 l0_4 a0_5 a0_6 l0_7 l0_8 l0_9 l0_10).bind fun bt338 => ((laws_eqBlock.f k bt289.1 bt289.2.1 bt289.2.2.1 bt289.2.2.2.1 bt289.2.2.2.2.1 bt289.2.2.2.2.2.1 bt289.2.2.2.2.2.2.1 bt289.2.2.2.2.2.2.2.1 bt289.2.2.2.2.2.2.2.2.1 bt289.2.2.2.2.2.2.2.2.2.1 bt289.2.2.2.2.2.2.2.2.2.2 bt338.1 bt338.2.1 bt338.2.2.1 bt338.2.2.2.1 bt338.2.2.2.2.1 bt338.2.2.2.2.2.1 bt338.2.2.2.2.2.2.1 bt338.2.2.2.2.2.2.2.1 bt338.2.2.2.2.2.2.2.2.1 bt338.2.2.2.2.2.2.2.2.2.1 bt338.2.2.2.2.2.2.2.2.2.2).bind fun t361 => (if t361 = true then ((laws_toBlock.f k a1_0 a1_1 a1_2 l1_3 l1_4 a1_5 a1_6 l1_7 l1_8 l1_9 l1_10).bind fun bt362 => ((laws_eqBlock.f k bt313.1 bt313.2.1 bt313.2.2.1 bt313.2.2.2.1 bt313.2.2.2.2.1 bt313.2.2.2.2.2.1 bt313.2.2.2.2.2.2.1 bt313.2.2.2.2.2.2.2.1 bt313.2.2.2.2.2.2.2.2.1 bt313.2.2.2.2.2.2.2.2.2.1 bt313.2.2.2.2.2.2.2.2.2.2 bt362.1 bt362.2.1 bt362.2.2.1 bt362.2.2.2.1 bt362.2.2.2.2.1 bt362.2.2.2.2.2.1 bt362.2.2.2.2.2.2.1 bt362.2.2.2.2.2.2.2.1 bt362.2.2.2.2.2.2.2.2.1 bt362.2.2.2.2.2.2.2.2.2.1 bt362.2.2.2.2.2.2.2.2.2.2).bind fun t385 => (if t385 = true then (some true) else (none)))) else (none))))))))))))))
theorem laws_FnExactBlockSame.mono : ∀ a0 a1 a2 a3 a4 a5 a6 a7 a8 a9 a10 a11 a12 a13 a14 a15 a16 a17 a18 a19 a20 a21 k, LeO (laws_FnExactBlockSame.f k a0 a1 a2 a3 a4 a5 a6 a7 a8 a9 a10 a11 a12 a13 a14 a15 a16 a17 a18 a19 a20 a21) (laws_FnExactBlockSame.f (k + 1) a0 a1 a2 a3 a4 a5 a6 a7 a8 a9 a10 a11 a12 a13 a14 a15 a16 a17 a18 a19 a20 a21) := by
 intro a0 a1 a2 a3 a4 a5 a6 a7 a8 a9 a10 a11 a12 a13 a14 a15 a16 a17 a18 a19 a20 a21 k
 unfold laws_FnExactBlockSame.f
 repeat' first
   | (with_reducible exact impl_BlockSame.mono _ _ _ _ _ _ _ _ _ _ _ _ _ _ _ _ _ _ _ _ _ _ _)
   | (with_reducible exact laws_eqBlock.mono _ _ _ _ _ _ _ _ _ _ _ _ _ _ _ _ _ _ _ _ _ _ _)
   | (with_reducible exact laws_szBlock.mono _ _ _ _ _ _ _ _ _ _ _ _ _)
   | (with_reducible exact laws_toBlock.mono _ _ _ _ _ _ _ _ _ _ _ _)
   | (with_reducible exact spec_BlockSame.mono _ _ _ _ _ _ _ _ _ _ _ _ _ _ _ _ _ _ _ _ _ _ _)
   | (with_reducible exact LeO.refl _)
   | (with_reducible exact LeO.none _)
   | (with_reducible refine LeO.ite ?_ ?_)
   | (with_reducible refine LeO.bind ?_ (fun _ => ?_))
   | exact impl_BlockSame.mono _ _ _ _ _ _ _ _ _ _ _ _ _ _ _ _ _ _ _ _ _ _ _
   | exact laws_eqBlock.mono _ _ _ _ _ _ _ _ _ _ _ _ _ _ _ _ _ _ _ _ _ _ _
   | exact laws_szBlock.mono _ _ _ _ _ _ _ _ _ _ _ _ _
   | exact laws_toBlock.mono _ _ _ _ _ _ _ _ _ _ _ _
   | exact spec_BlockSame.mono _ _ _ _ _ _ _ _ _ _ _ _ _ _ _ _ _ _ _ _ _ _ _
   | exact LeO.none _
   | refine LeO.ite ?_ ?_
   | refine LeO.bind ?_ (fun _ => ?_)
set_option maxHeartbeats 8000000 in
set_option maxRecDepth 100000 in
theorem laws_FnExactBlockSame.calls (k : Nat) (a0_0 : Int) (a0_1 : Int) (a0_2 : Int) (A0_3 : Option Addr) (c0_3 : Nat) (l0_3 : List Int) (A0_4 : Option Addr) (c0_4 : Nat) (l0_4 : List Int) (a0_5 : Int) (a0_6 : Int) (A0_7 : Option Addr) (c0_7 : Nat) (l0_7 : List Int) (A0_8 : Option Addr) (c0_8 : Nat) (l0_8 : List Int) (A0_9 : Option Addr) (c0_9 : Nat) (l0_9 : List (List Int)) (A0_10 : Option Addr) (c0_10 : Nat) (l0_10 : List (List Int)) (a1_0 : Int) (a1_1 : Int) (a1_2 : Int) (A1_3 : Option Addr) (c1_3 : Nat) (l1_3 : List Int) (A1_4 : Option Addr) (c1_4 : Nat) (l1_4 : List Int) (a1_5 : Int) (a1_6 : Int) (A1_7 : Option Addr) (c1_7 : Nat) (l1_7 : List Int) (A1_8 : Option Addr) (c1_8 : Nat) (l1_8 : List Int) (A1_9 : Option Addr) (c1_9 : Nat) (l1_9 : List (List Int)) (A1_10 : Option Addr) (c1_10 : Nat) (l1_10 : List (List Int)) (r : Bool) (w : World) (hr0_3 : Kd.C (Kd.int .u8) w A0_3 l0_3.length l0_3) (hc0_3 : l0_3.length ≤ c0_3) (hr0_4 : Kd.C (Kd.int .u8) w A0_4 l0_4.length l0_4) (hc0_4 : l0_4.length ≤ c0_4) (hr0_7 : Kd.C (Kd.int .u8) w A0_7 l0_7.length l0_7) (hc0_7 : l0_7.length ≤ c0_7) (hr0_8 : Kd.C (Kd.int .u8) w A0_8 l0_8.length l0_8) (hc0_8 : l0_8.length ≤ c0_8) (hr0_9 : Kd.C (Kd.slice 5 (Kd.int .u8)) w A0_9 l0_9.length l0_9) (hc0_9 : l0_9.length ≤ c0_9) (hr0_10 : Kd.C (Kd.slice 5 (Kd.int .u8)) w A0_10 l0_10.length l0_10) (hc0_10 : l0_10.length ≤ c0_10) (hr1_3 : Kd.C (Kd.int .u8) w A1_3 l1_3.length l1_3) (hc1_3 : l1_3.length ≤ c1_3) (hr1_4 : Kd.C (Kd.int .u8) w A1_4 l1_4.length l1_4) (hc1_4 : l1_4.length ≤ c1_4) (hr1_7 : Kd.C (Kd.int .u8) w A1_7 l1_7.length l1_7) (hc1_7 : l1_7.length ≤ c1_7) (hr1_8 : Kd.C (Kd.int .u8) w A1_8 l1_8.length l1_8) (hc1_8 : l1_8.length ≤ c1_8) (hr1_9 : Kd.C (Kd.slice 5 (Kd.int .u8)) w A1_9 l1_9.length l1_9) (hc1_9 : l1_9.length ≤ c1_9) (hr1_10 : Kd.C (Kd.slice 5 (Kd.int .u8)) w A1_10 l1_10.length l1_10) (hc1_10 : l1_10.length ≤ c1_10) (h : laws_FnExactBlockSame.f k a0_0 a0_1 a0_2 l0_3 l0_4 a0_5 a0_6 l0_7 l0_8 l0_9 l0_10 a1_0 a1_1 a1_2 l1_3 l1_4 a1_5 a1_6 l1_7 l1_8 l1_9 l1_10 = some r) :
  Calls Try.prog 7 #[.agg #[.int .i64 a0_0, .int .i64 a0_1, .int .i64 a0_2, .slice A0_3 l0_3.length c0_3, .slice A0_4 l0_4.length c0_4, .int .i64 a0_5, .int .i64 a0_6, .slice A0_7 l0_7.length c0_7, .slice A0_8 l0_8.length c0_8, .slice A0_9 l0_9.length c0_9, .slice A0_10 l0_10.length c0_10], .agg #[.int .i64 a1_0, .int .i64 a1_1, .int .i64 a1_2, .slice A1_3 l1_3.length c1_3, .slice A1_4 l1_4.length c1_4, .int .i64 a1_5, .int .i64 a1_6, .slice A1_7 l1_7.length c1_7, .slice A1_8 l1_8.length c1_8, .slice A1_9 l1_9.length c1_9, .slice A1_10 l1_10.length c1_10]] w fun e w' => e = .returned (.bool r) ∧ Below w.heap.size w w' := by
 have hu64 := Try.underlying64
 have hu68 := Try.underlying68
 have HR0_3 := Aside0.mk hr0_3
 have HC0_3 := Aside0.mk hc0_3
 clear hr0_3 hc0_3
 have HR0_4 := Aside0.mk hr0_4
 have HC0_4 := Aside0.mk hc0_4
 clear hr0_4 hc0_4
 have HR0_7 := Aside0.mk hr0_7
 have HC0_7 := Aside0.mk hc0_7
 clear hr0_7 hc0_7
 have HR0_8 := Aside0.mk hr0_8
 have HC0_8 := Aside0.mk hc0_8
 clear hr0_8 hc0_8
 have HR0_9 := Aside0.mk hr0_9
 have HC0_9 := Aside0.mk hc0_9
 clear hr0_9 hc0_9
 have HR0_10 := Aside0.mk hr0_10
 have HC0_10 := Aside0.mk hc0_10
 clear hr0_10 hc0_10
 have HR1_3 := Aside0.mk hr1_3
 have HC1_3 := Aside0.mk hc1_3
 clear hr1_3 hc1_3
 have HR1_4 := Aside0.mk hr1_4
 have HC1_4 := Aside0.mk hc1_4
 clear hr1_4 hc1_4
 have HR1_7 := Aside0.mk hr1_7
 have HC1_7 := Aside0.mk hc1_7
 clear hr1_7 hc1_7
 have HR1_8 := Aside0.mk hr1_8
 have HC1_8 := Aside0.mk hc1_8
 clear hr1_8 hc1_8
 have HR1_9 := Aside0.mk hr1_9
 have HC1_9 := Aside0.mk hc1_9
 clear hr1_9 hc1_9
 have HR1_10 := Aside0.mk hr1_10
 have HC1_10 := Aside0.mk hc1_10
 clear hr1_10 hc1_10
 have HB := Aside0.mk (Below.refl w.heap.size w)
 have H : ((laws_szBlock.f k a0_0 a0_1 a0_2 l0_3 l0_4 a0_5 a0_6 l0_7 l0_8 l0_9 l0_10 1048576).bind fun t240 => (if t240 < 0 then (some true) else ((laws_szBlock.f k a1_0 a1_1 a1_2 l1_3 l1_4 a1_5 a1_6 l1_7 l1_8 l1_9 l1_10 t240).bind fun t241 => (if t241 < 0 then (some true) else ((laws_toBlock.f k a0_0 a0_1 a0_2 l0_3 l0_4 a0_5 a0_6 l0_7 l0_8 l0_9 l0_10).bind fun bt242 => ((laws_toBlock.f k a1_0 a1_1 a1_2 l1_3 l1_4 a1_5 a1_6 l1_7 l1_8 l1_9 l1_10).bind fun bt265 => ((spec_BlockSame.f k bt242.1 bt242.2.1 bt242.2.2.1 bt242.2.2.2.1 bt242.2.2.2.2.1 bt242.2.2.2.2.2.1 bt242.2.2.2.2.2.2.1 bt242.2.2.2.2.2.2.2.1 bt242.2.2.2.2.2.2.2.2.1 bt242.2.2.2.2.2.2.2.2.2.1 bt242.2.2.2.2.2.2.2.2.2.2 bt265.1 bt265.2.1 bt265.2.2.1 bt265.2.2.2.1 bt265.2.2.2.2.1 bt265.2.2.2.2.2.1 bt265.2.2.2.2.2.2.1 bt265.2.2.2.2.2.2.2.1 bt265.2.2.2.2.2.2.2.2.1 bt265.2.2.2.2.2.2.2.2.2.1 bt265.2.2.2.2.2.2.2.2.2.2).bind fun t288 => ((laws_toBlock.f k a0_0 a0_1 a0_2 l0_3 l0_4 a0_5 a0_6 l0_7 l0_8 l0_9 l0_10).bind fun bt289 => ((laws_toBlock.f k a1_0 a1_1 a1_2 l1_3 l1_4 a1_5 a1_6 l1_7 l1_8 l1_9 l1_10).bind fun bt313 => ((impl_BlockSame.f k bt289.1 bt289.2.1 bt289.2.2.1 bt289.2.2.2.1 bt289.2.2.2.2.1 bt289.2.2.2.2.2.1 bt289.2.2.2.2.2.2.1 bt289.2.2.2.2.2.2.2.1 bt289.2.2.2.2.2.2.2.2.1 bt289.2.2.2.2.2.2.2.2.2.1 bt289.2.2.2.2.2.2.2.2.2.2 bt313.1 bt313.2.1 bt313.2.2.1 bt313.2.2.2.1 bt313.2.2.2.2.1 bt313.2.2.2.2.2.1 bt313.2.2.2.2.2.2.1 bt313.2.2.2.2.2.2.2.1 bt313.2.2.2.2.2.2.2.2.1 bt313.2.2.2.2.2.2.2.2.2.1 bt313.2.2.2.2.2.2.2.2.2.2).bind fun t337 => (if (t337 != t288) = true then (none) else ((laws_toBlock.f k a0_0 a0_1 a0_2 l0_3 l0_4 a0_5 a0_6 l0_7 l0_8 l0_9 l0_10).bind fun bt338 => ((laws_eqBlock.f k bt289.1 bt289.2.1 bt289.2.2.1 bt289.2.2.2.1 bt289.2.2.2.2.1 bt289.2.2.2.2.2.1 bt289.2.2.2.2.2.2.1 bt289.2.2.2.2.2.2.2.1 bt289.2.2.2.2.2.2.2.2.1 bt289.2.2.2.2.2.2.2.2.2.1 bt289.2.2.2.2.2.2.2.2.2.2 bt338.1 bt338.2.1 bt338.2.2.1 bt338.2.2.2.1 bt338.2.2.2.2.1 bt338.2.2.2.2.2.1 bt338.2.2.2.2.2.2.1 bt338.2.2.2.2.2.2.2.1 bt338.2.2.2.2.2.2.2.2.1 bt338.2.2.2.2.2.2.2.2.2.1 bt338.2.2.2.2.2.2.2.2.2.2).bind fun t361 => (if t361 = true then ((laws_toBlock.f k a1_0 a1_1 a1_2 l1_3 l1_4 a1_5 a1_6 l1_7 l1_8 l1_9 l1_10).bind fun bt362 => ((laws_eqBlock.f k bt313.1 bt313.2.1 bt313.2.2.1 bt313.2.2.2.1 bt313.2.2.2.2.1 bt313.2.2.2.2.2.1 bt313.2.2.2.2.2.2.1 bt313.2.2.2.2.2.2.2.1 bt313.2.2.2.2.2.2.2.2.1 bt313.2.2.2.2.2.2.2.2.2.1 bt313.2.2.2.2.2.2.2.2.2.2 bt362.1 bt362.2.1 bt362.2.2.1 bt362.2.2.2.1 bt362.2.2.2.2.1 bt362.2.2.2.2.2.1 bt362.2.2.2.2.2.2.1 bt362.2.2.2.2.2.2.2.1 bt362.2.2.2.2.2.2.2.2.1 bt362.2.2.2.2.2.2.2.2.2.1 bt362.2.2.2.2.2.2.2.2.2.2).bind fun t385 => (if t385 = true then (some true) else (none)))) else (none))))))))))))))) = some r := h
 clear h
 replace H := Option.bind_eq_some_iff.mp H
 obtain ⟨t240, A30, H⟩ := H
 replace H : (if t240 < 0 then (some true) else ((laws_szBlock.f k a1_0 a1_1 a1_2 l1_3 l1_4 a1_5 a1_6 l1_7 l1_8 l1_9 l1_10 t240).bind fun t241 => (if t241 < 0 then (some true) else ((laws_toBlock.f k a0_0 a0_1 a0_2 l0_3 l0_4 a0_5 a0_6 l0_7 l0_8 l0_9 l0_10).bind fun bt242 => ((laws_toBlock.f k a1_0 a1_1 a1_2 l1_3 l1_4 a1_5 a1_6 l1_7 l1_8 l1_9 l1_10).bind fun bt265 => ((spec_BlockSame.f k bt242.1 bt242.2.1 bt242.2.2.1 bt242.2.2.2.1 bt242.2.2.2.2.1 bt242.2.2.2.2.2.1 bt242.2.2.2.2.2.2.1 bt242.2.2.2.2.2.2.2.1 bt242.2.2.2.2.2.2.2.2.1 bt242.2.2.2.2.2.2.2.2.2.1 bt242.2.2.2.2.2.2.2.2.2.2 bt265.1 bt265.2.1 bt265.2.2.1 bt265.2.2.2.1 bt265.2.2.2.2.1 bt265.2.2.2.2.2.1 bt265.2.2.2.2.2.2.1 bt265.2.2.2.2.2.2.2.1 bt265.2.2.2.2.2.2.2.2.1 bt265.2.2.2.2.2.2.2.2.2.1 bt265.2.2.2.2.2.2.2.2.2.2).bind fun t288 => ((laws_toBlock.f k a0_0 a0_1 a0_2 l0_3 l0_4 a0_5 a0_6 l0_7 l0_8 l0_9 l0_10).bind fun bt289 => ((laws_toBlock.f k a1_0 a1_1 a1_2 l1_3 l1_4 a1_5 a1_6 l1_7 l1_8 l1_9 l1_10).bind fun bt313 => ((impl_BlockSame.f k bt289.1 bt289.2.1 bt289.2.2.1 bt289.2.2.2.1 bt289.2.2.2.2.1 bt289.2.2.2.2.2.1 bt289.2.2.2.2.2.2.1 bt289.2.2.2.2.2.2.2.1 bt289.2.2.2.2.2.2.2.2.1 bt289.2.2.2.2.2.2.2.2.2.1 bt289.2.2.2.2.2.2.2.2.2.2 bt313.1 bt313.2.1 bt313.2.2.1 bt313.2.2.2.1 bt313.2.2.2.2.1 bt313.2.2.2.2.2.1 bt313.2.2.2.2.2.2.1 bt313.2.2.2.2.2.2.2.1 bt313.2.2.2.2.2.2.2.2.1 bt313.2.2.2.2.2.2.2.2.2.1 bt313.2.2.2.2.2.2.2.2.2.2).bind fun t337 => (if (t337 != t288) = true then (none) else ((laws_toBlock.f k a0_0 a0_1 a0_2 l0_3 l0_4 a0_5 a0_6 l0_7 l0_8 l0_9 l0_10).bind fun bt338 => ((laws_eqBlock.f k bt289.1 bt289.2.1 bt289.2.2.1 bt289.2.2.2.1 bt289.2.2.2.2.1 bt289.2.2.2.2.2.1 bt289.2.2.2.2.2.2.1 bt289.2.2.2.2.2.2.2.1 bt289.2.2.2.2.2.2.2.2.1 bt289.2.2.2.2.2.2.2.2.2.1 bt289.2.2.2.2.2.2.2.2.2.2 bt338.1 bt338.2.1 bt338.2.2.1 bt338.2.2.2.1 bt338.2.2.2.2.1 bt338.2.2.2.2.2.1 bt338.2.2.2.2.2.2.1 bt338.2.2.2.2.2.2.2.1 bt338.2.2.2.2.2.2.2.2.1 bt338.2.2.2.2.2.2.2.2.2.1 bt338.2.2.2.2.2.2.2.2.2.2).bind fun t361 => (if t361 = true then ((laws_toBlock.f k a1_0 a1_1 a1_2 l1_3 l1_4 a1_5 a1_6 l1_7 l1_8 l1_9 l1_10).bind fun bt362 => ((laws_eqBlock.f k bt313.1 bt313.2.1 bt313.2.2.1 bt313.2.2.2.1 bt313.2.2.2.2.1 bt313.2.2.2.2.2.1 bt313.2.2.2.2.2.2.1 bt313.2.2.2.2.2.2.2.1 bt313.2.2.2.2.2.2.2.2.1 bt313.2.2.2.2.2.2.2.2.2.1 bt313.2.2.2.2.2.2.2.2.2.2 bt362.1 bt362.2.1 bt362.2.2.1 bt362.2.2.2.1 bt362.2.2.2.2.1 bt362.2.2.2.2.2.1 bt362.2.2.2.2.2.2.1 bt362.2.2.2.2.2.2.2.1 bt362.2.2.2.2.2.2.2.2.1 bt362.2.2.2.2.2.2.2.2.2.1 bt362.2.2.2.2.2.2.2.2.2.2).bind fun t385 => (if t385 = true then (some true) else (none)))) else (none)))))))))))))) = some r := H
 have A3 := Aside0.mk A30
 clear A30
 have HC4 := Aside0.mk H
 clear H
 go_enter Try.func7, Try.ntmps7
 go_upto_if 14 with (first | ((with_reducible refine gate_dst (N := 2) rfl ?_); refine box_event ?hg (N := 2) ?hd (cs := #[.int .i64 a0_0, .int .i64 a0_1, .int .i64 a0_2, .slice A0_3 l0_3.length c0_3, .slice A0_4 l0_4.length c0_4, .int .i64 a0_5, .int .i64 a0_6, .slice A0_7 l0_7.length c0_7, .slice A0_8 l0_8.length c0_8, .slice A0_9 l0_9.length c0_9, .slice A0_10 l0_10.length c0_10]) (t := 64) ?hr ?_; (case hd => rfl); (case hg => rfl); (case hr => first | (go_simp; done) | (go_simp; rfl)); intro gb238 hg w5 hbox hb; have n0_ := Aside0.mk (below_step (by repeat (first | (with_reducible first | exact HB.out | apply below_alloc | apply pw_below_drewN | apply below_drew1) | exact HB.out)) hb); have n1_ := Aside0.mk (hbox); have n2_ := Aside0.mk ((by rw [hg]; exact (below_size (by repeat (first | (with_reducible first | exact HB.out | apply below_alloc | apply pw_below_drewN | apply below_drew1) | exact HB.out))) : w.heap.size ≤ gb238)); have n3_ := Aside0.mk ((by rw [hg]; exact (below_size (by repeat (first | (with_reducible first | exact HB.out | apply below_alloc | apply pw_below_drewN | apply below_drew1) | exact HB.out))) : w.heap.size ≤ gb238)); clear HB; have HB := n0_; have BK238 := n1_; have GW238 := n2_; have GE238 := n3_; clear n0_ n1_ n2_ n3_; clear hb hbox hg) | ((with_reducible refine gate_dst (N := 3) rfl ?_); refine box_event ?hg (N := 3) ?hd (cs := #[.int .i64 a1_0, .int .i64 a1_1, .int .i64 a1_2, .slice A1_3 l1_3.length c1_3, .slice A1_4 l1_4.length c1_4, .int .i64 a1_5, .int .i64 a1_6, .slice A1_7 l1_7.length c1_7, .slice A1_8 l1_8.length c1_8, .slice A1_9 l1_9.length c1_9, .slice A1_10 l1_10.length c1_10]) (t := 64) ?hr ?_; (case hd => rfl); (case hg => rfl); (case hr => first | (go_simp; done) | (go_simp; rfl)); intro gb239 hg w6 hbox hb; have n0_ := Aside0.mk (blk_below (g := gb238) (o := .cells #[.int .i64 a0_0, .int .i64 a0_1, .int .i64 a0_2, .slice A0_3 l0_3.length c0_3, .slice A0_4 l0_4.length c0_4, .int .i64 a0_5, .int .i64 a0_6, .slice A0_7 l0_7.length c0_7, .slice A0_8 l0_8.length c0_8, .slice A0_9 l0_9.length c0_9, .slice A0_10 l0_10.length c0_10] 64 (0, 0)) (blk_mv BK238) hb); have n1_ := Aside0.mk (below_step (by repeat (first | (with_reducible first | exact HB.out | apply below_alloc | apply pw_below_drewN | apply below_drew1 | refine below_set ?_ GE238.out) | exact HB.out)) hb); have n2_ := Aside0.mk (hbox); have n3_ := Aside0.mk ((by rw [hg]; exact (below_size (by repeat (first | (with_reducible first | exact HB.out | apply below_alloc | apply pw_below_drewN | apply below_drew1 | refine below_set ?_ GE238.out) | exact HB.out))) : w.heap.size ≤ gb239)); have n4_ := Aside0.mk ((by rw [hg]; exact (below_size (by repeat (first | (with_reducible first | exact HB.out | apply below_alloc | apply pw_below_drewN | apply below_drew1 | refine below_set ?_ GE238.out) | exact HB.out))) : w.heap.size ≤ gb239)); have n5_ := Aside0.mk ((by rw [hg]; exact Nat.ne_of_lt (blk_lt (g := gb238) (o := .cells #[.int .i64 a0_0, .int .i64 a0_1, .int .i64 a0_2, .slice A0_3 l0_3.length c0_3, .slice A0_4 l0_4.length c0_4, .int .i64 a0_5, .int .i64 a0_6, .slice A0_7 l0_7.length c0_7, .slice A0_8 l0_8.length c0_8, .slice A0_9 l0_9.length c0_9, .slice A0_10 l0_10.length c0_10] 64 (0, 0)) (blk_mv BK238)) : gb238 ≠ gb239)); have n6_ := Aside0.mk ((by rw [hg]; exact Nat.ne_of_gt (blk_lt (g := gb238) (o := .cells #[.int .i64 a0_0, .int .i64 a0_1, .int .i64 a0_2, .slice A0_3 l0_3.length c0_3, .slice A0_4 l0_4.length c0_4, .int .i64 a0_5, .int .i64 a0_6, .slice A0_7 l0_7.length c0_7, .slice A0_8 l0_8.length c0_8, .slice A0_9 l0_9.length c0_9, .slice A0_10 l0_10.length c0_10] 64 (0, 0)) (blk_mv BK238)) : gb239 ≠ gb238)); clear BK238; clear HB; have BK238 := n0_; have HB := n1_; have BK239 := n2_; have GW239 := n3_; have GE239 := n4_; have NB238_239 := n5_; have NB239_238 := n6_; clear n0_ n1_ n2_ n3_ n4_ n5_ n6_; clear hb hbox hg; have hnb7 := NB238_239.out; have hnc7 := NB239_238.out; have hcz8_0 : w6.cell? ⟨gb238, 0, none⟩ = some (.int .i64 a0_0) := (blk_cell BK238.out 0).trans rfl; have hcz8_1 : w6.cell? ⟨gb238, 1, none⟩ = some (.int .i64 a0_1) := (blk_cell BK238.out 1).trans rfl; have hcz8_2 : w6.cell? ⟨gb238, 2, none⟩ = some (.int .i64 a0_2) := (blk_cell BK238.out 2).trans rfl; have hcz8_3 : w6.cell? ⟨gb238, 3, none⟩ = some (.slice A0_3 l0_3.length c0_3) := (blk_cell BK238.out 3).trans rfl; have hcz8_4 : w6.cell? ⟨gb238, 4, none⟩ = some (.slice A0_4 l0_4.length c0_4) := (blk_cell BK238.out 4).trans rfl; have hcz8_5 : w6.cell? ⟨gb238, 5, none⟩ = some (.int .i64 a0_5) := (blk_cell BK238.out 5).trans rfl; have hcz8_6 : w6.cell? ⟨gb238, 6, none⟩ = some (.int .i64 a0_6) := (blk_cell BK238.out 6).trans rfl; have hcz8_7 : w6.cell? ⟨gb238, 7, none⟩ = some (.slice A0_7 l0_7.length c0_7) := (blk_cell BK238.out 7).trans rfl; have hcz8_8 : w6.cell? ⟨gb238, 8, none⟩ = some (.slice A0_8 l0_8.length c0_8) := (blk_cell BK238.out 8).trans rfl; have hcz8_9 : w6.cell? ⟨gb238, 9, none⟩ = some (.slice A0_9 l0_9.length c0_9) := (blk_cell BK238.out 9).trans rfl; have hcz8_10 : w6.cell? ⟨gb238, 10, none⟩ = some (.slice A0_10 l0_10.length c0_10) := (blk_cell BK238.out 10).trans rfl; have hfz8_0 := blk_frozen BK238.out 0; have hfz8_1 := blk_frozen BK238.out 1; have hfz8_2 := blk_frozen BK238.out 2; have hfz8_3 := blk_frozen BK238.out 3; have hfz8_4 := blk_frozen BK238.out 4; have hfz8_5 := blk_frozen BK238.out 5; have hfz8_6 := blk_frozen BK238.out 6; have hfz8_7 := blk_frozen BK238.out 7; have hfz8_8 := blk_frozen BK238.out 8; have hfz8_9 := blk_frozen BK238.out 9; have hfz8_10 := blk_frozen BK238.out 10) | ((with_reducible refine gate_callee (f := 36) rfl ?_); refine goesL_ (some 12) rfl rfl Try.func36 (by kernel_rfl) rfl #[.agg #[.int .i64 a0_0, .int .i64 a0_1, .int .i64 a0_2, .slice A0_3 l0_3.length c0_3, .slice A0_4 l0_4.length c0_4, .int .i64 a0_5, .int .i64 a0_6, .slice A0_7 l0_7.length c0_7, .slice A0_8 l0_8.length c0_8, .slice A0_9 l0_9.length c0_9, .slice A0_10 l0_10.length c0_10], .int .i64 1048576] rfl (by (try simp only [List.map_toArray, List.map_cons, List.map_nil]); first | done | rfl | (simp only [List.length_drop, List.length_take]; rfl)) ?_; (with_reducible refine (laws_szBlock.calls k a0_0 a0_1 a0_2 _ _ l0_3 _ _ l0_4 a0_5 a0_6 _ _ l0_7 _ _ l0_8 _ _ l0_9 _ _ l0_10 1048576 t240 _ ?side1 ?side2 ?side3 ?side4 ?side5 ?side6 ?side7 ?side8 ?side9 ?side10 ?side11 ?side12 A3.out).mono ?_); (case side1 => repeat (first | exact (Kd.C_below HR0_3.out HB.out) | (with_reducible refine Kd.C_alloc ?_ _) | (with_reducible refine Kd.C_drewN ?_ _) | (with_reducible refine Kd.C_drew ?_))); (case side2 => exact HC0_3.out); (case side3 => repeat (first | exact (Kd.C_below HR0_4.out HB.out) | (with_reducible refine Kd.C_alloc ?_ _) | (with_reducible refine Kd.C_drewN ?_ _) | (with_reducible refine Kd.C_drew ?_))); (case side4 => exact HC0_4.out); (case side5 => repeat (first | exact (Kd.C_below HR0_7.out HB.out) | (with_reducible refine Kd.C_alloc ?_ _) | (with_reducible refine Kd.C_drewN ?_ _) | (with_reducible refine Kd.C_drew ?_))); (case side6 => exact HC0_7.out); (case side7 => repeat (first | exact (Kd.C_below HR0_8.out HB.out) | (with_reducible refine Kd.C_alloc ?_ _) | (with_reducible refine Kd.C_drewN ?_ _) | (with_reducible refine Kd.C_drew ?_))); (case side8 => exact HC0_8.out); (case side9 => repeat (first | exact (Kd.C_below HR0_9.out HB.out) | (with_reducible refine Kd.C_alloc ?_ _) | (with_reducible refine Kd.C_drewN ?_ _) | (with_reducible refine Kd.C_drew ?_))); (case side10 => exact HC0_9.out); (case side11 => repeat (first | exact (Kd.C_below HR0_10.out HB.out) | (with_reducible refine Kd.C_alloc ?_ _) | (with_reducible refine Kd.C_drewN ?_ _) | (with_reducible refine Kd.C_drew ?_))); (case side12 => exact HC0_10.out); rintro e w9 ⟨rfl, hb⟩; refine ⟨_, rfl, ?_⟩; have n0_ := Aside0.mk (blk_below (g := gb238) (o := .cells #[.int .i64 a0_0, .int .i64 a0_1, .int .i64 a0_2, .slice A0_3 l0_3.length c0_3, .slice A0_4 l0_4.length c0_4, .int .i64 a0_5, .int .i64 a0_6, .slice A0_7 l0_7.length c0_7, .slice A0_8 l0_8.length c0_8, .slice A0_9 l0_9.length c0_9, .slice A0_10 l0_10.length c0_10] 64 (0, 0)) (blk_mv BK238) hb); have n1_ := Aside0.mk (blk_below (g := gb239) (o := .cells #[.int .i64 a1_0, .int .i64 a1_1, .int .i64 a1_2, .slice A1_3 l1_3.length c1_3, .slice A1_4 l1_4.length c1_4, .int .i64 a1_5, .int .i64 a1_6, .slice A1_7 l1_7.length c1_7, .slice A1_8 l1_8.length c1_8, .slice A1_9 l1_9.length c1_9, .slice A1_10 l1_10.length c1_10] 64 (0, 0)) (blk_mv BK239) hb); have n2_ := Aside0.mk (below_step (by repeat (first | (with_reducible first | exact HB.out | apply below_alloc | apply pw_below_drewN | apply below_drew1 | refine below_set ?_ GE238.out | refine below_set ?_ GE239.out) | exact HB.out)) hb); clear BK238; clear BK239; clear HB; have BK238 := n0_; have BK239 := n1_; have HB := n2_; clear n0_ n1_ n2_; (try clear hb); (try clear hb2); (try clear hk); (try clear hi)))
 (try simp only [Act.put, List.setIfInBounds_toArray, List.set_cons_zero, List.set_cons_succ])
 have H := HC4.out
 clear HC4
 by_cases c10 : t240 < 0
 ·rw [if_pos c10] at H
  have c10b0 : decide (t240 < 0) = true := decide_eq_true c10
  clear c10
  (first | rw [c10b0] | (simp only [i64_w, i32_w]; rw [c10b0]) | skip)
  obtain rfl := Option.some.inj H
  go_wp2
  go_ret
  exact ⟨by first | rfl | (simp [errW_none, errW_some] <;> rfl) | (simp [*, errW_none, errW_some] <;> rfl), by repeat (first | (with_reducible first | exact HB.out | apply below_alloc | apply pw_below_drewN | apply below_drew1 | refine below_set ?_ GE238.out | refine below_set ?_ GE239.out) | exact HB.out)⟩
 ·rw [if_neg c10] at H
  have c10b0 : decide (t240 < 0) = false := decide_eq_false c10
  clear c10
  (first | rw [c10b0] | (simp only [i64_w, i32_w]; rw [c10b0]) | skip)
  replace H := Option.bind_eq_some_iff.mp H
  obtain ⟨t241, A110, H⟩ := H
  replace H : (if t241 < 0 then (some true) else ((laws_toBlock.f k a0_0 a0_1 a0_2 l0_3 l0_4 a0_5 a0_6 l0_7 l0_8 l0_9 l0_10).bind fun bt242 => ((laws_toBlock.f k a1_0 a1_1 a1_2 l1_3 l1_4 a1_5 a1_6 l1_7 l1_8 l1_9 l1_10).bind fun bt265 => ((spec_BlockSame.f k bt242.1 bt242.2.1 bt242.2.2.1 bt242.2.2.2.1 bt242.2.2.2.2.1 bt242.2.2.2.2.2.1 bt242.2.2.2.2.2.2.1 bt242.2.2.2.2.2.2.2.1 bt242.2.2.2.2.2.2.2.2.1 bt242.2.2.2.2.2.2.2.2.2.1 bt242.2.2.2.2.2.2.2.2.2.2 bt265.1 bt265.2.1 bt265.2.2.1 bt265.2.2.2.1 bt265.2.2.2.2.1 bt265.2.2.2.2.2.1 bt265.2.2.2.2.2.2.1 bt265.2.2.2.2.2.2.2.1 bt265.2.2.2.2.2.2.2.2.1 bt265.2.2.2.2.2.2.2.2.2.1 bt265.2.2.2.2.2.2.2.2.2.2).bind fun t288 => ((laws_toBlock.f k a0_0 a0_1 a0_2 l0_3 l0_4 a0_5 a0_6 l0_7 l0_8 l0_9 l0_10).bind fun bt289 => ((laws_toBlock.f k a1_0 a1_1 a1_2 l1_3 l1_4 a1_5 a1_6 l1_7 l1_8 l1_9 l1_10).bind fun bt313 => ((impl_BlockSame.f k bt289.1 bt289.2.1 bt289.2.2.1 bt289.2.2.2.1 bt289.2.2.2.2.1 bt289.2.2.2.2.2.1 bt289.2.2.2.2.2.2.1 bt289.2.2.2.2.2.2.2.1 bt289.2.2.2.2.2.2.2.2.1 bt289.2.2.2.2.2.2.2.2.2.1 bt289.2.2.2.2.2.2.2.2.2.2 bt313.1 bt313.2.1 bt313.2.2.1 bt313.2.2.2.1 bt313.2.2.2.2.1 bt313.2.2.2.2.2.1 bt313.2.2.2.2.2.2.1 bt313.2.2.2.2.2.2.2.1 bt313.2.2.2.2.2.2.2.2.1 bt313.2.2.2.2.2.2.2.2.2.1 bt313.2.2.2.2.2.2.2.2.2.2).bind fun t337 => (if (t337 != t288) = true then (none) else ((laws_toBlock.f k a0_0 a0_1 a0_2 l0_3 l0_4 a0_5 a0_6 l0_7 l0_8 l0_9 l0_10).bind fun bt338 => ((laws_eqBlock.f k bt289.1 bt289.2.1 bt289.2.2.1 bt289.2.2.2.1 bt289.2.2.2.2.1 bt289.2.2.2.2.2.1 bt289.2.2.2.2.2.2.1 bt289.2.2.2.2.2.2.2.1 bt289.2.2.2.2.2.2.2.2.1 bt289.2.2.2.2.2.2.2.2.2.1 bt289.2.2.2.2.2.2.2.2.2.2 bt338.1 bt338.2.1 bt338.2.2.1 bt338.2.2.2.1 bt338.2.2.2.2.1 bt338.2.2.2.2.2.1 bt338.2.2.2.2.2.2.1 bt338.2.2.2.2.2.2.2.1 bt338.2.2.2.2.2.2.2.2.1 bt338.2.2.2.2.2.2.2.2.2.1 bt338.2.2.2.2.2.2.2.2.2.2).bind fun t361 => (if t361 = true then ((laws_toBlock.f k a1_0 a1_1 a1_2 l1_3 l1_4 a1_5 a1_6 l1_7 l1_8 l1_9 l1_10).bind fun bt362 => ((laws_eqBlock.f k bt313.1 bt313.2.1 bt313.2.2.1 bt313.2.2.2.1 bt313.2.2.2.2.1 bt313.2.2.2.2.2.1 bt313.2.2.2.2.2.2.1 bt313.2.2.2.2.2.2.2.1 bt313.2.2.2.2.2.2.2.2.1 bt313.2.2.2.2.2.2.2.2.2.1 bt313.2.2.2.2.2.2.2.2.2.2 bt362.1 bt362.2.1 bt362.2.2.1 bt362.2.2.2.1 bt362.2.2.2.2.1 bt362.2.2.2.2.2.1 bt362.2.2.2.2.2.2.1 bt362.2.2.2.2.2.2.2.1 bt362.2.2.2.2.2.2.2.2.1 bt362.2.2.2.2.2.2.2.2.2.1 bt362.2.2.2.2.2.2.2.2.2.2).bind fun t385 => (if t385 = true then (some true) else (none)))) else (none)))))))))))) = some r := H
  have A11 := Aside0.mk A110
  clear A110
  have HC12 := Aside0.mk H
  clear H
  have hnb13 := NB239_238.out
  have hnc13 := NB238_239.out
  have hcz14_0 : w9.cell? ⟨gb239, 0, none⟩ = some (.int .i64 a1_0) := (blk_cell BK239.out 0).trans rfl
  have hcz14_1 : w9.cell? ⟨gb239, 1, none⟩ = some (.int .i64 a1_1) := (blk_cell BK239.out 1).trans rfl
  have hcz14_2 : w9.cell? ⟨gb239, 2, none⟩ = some (.int .i64 a1_2) := (blk_cell BK239.out 2).trans rfl
  have hcz14_3 : w9.cell? ⟨gb239, 3, none⟩ = some (.slice A1_3 l1_3.length c1_3) := (blk_cell BK239.out 3).trans rfl
  have hcz14_4 : w9.cell? ⟨gb239, 4, none⟩ = some (.slice A1_4 l1_4.length c1_4) := (blk_cell BK239.out 4).trans rfl
  have hcz14_5 : w9.cell? ⟨gb239, 5, none⟩ = some (.int .i64 a1_5) := (blk_cell BK239.out 5).trans rfl
  have hcz14_6 : w9.cell? ⟨gb239, 6, none⟩ = some (.int .i64 a1_6) := (blk_cell BK239.out 6).trans rfl
  have hcz14_7 : w9.cell? ⟨gb239, 7, none⟩ = some (.slice A1_7 l1_7.length c1_7) := (blk_cell BK239.out 7).trans rfl
  have hcz14_8 : w9.cell? ⟨gb239, 8, none⟩ = some (.slice A1_8 l1_8.length c1_8) := (blk_cell BK239.out 8).trans rfl
  have hcz14_9 : w9.cell? ⟨gb239, 9, none⟩ = some (.slice A1_9 l1_9.length c1_9) := (blk_cell BK239.out 9).trans rfl
  have hcz14_10 : w9.cell? ⟨gb239, 10, none⟩ = some (.slice A1_10 l1_10.length c1_10) := (blk_cell BK239.out 10).trans rfl
  have hfz14_0 := blk_frozen BK239.out 0
  have hfz14_1 := blk_frozen BK239.out 1
  have hfz14_2 := blk_frozen BK239.out 2
  have hfz14_3 := blk_frozen BK239.out 3
  have hfz14_4 := blk_frozen BK239.out 4
  have hfz14_5 := blk_frozen BK239.out 5
  have hfz14_6 := blk_frozen BK239.out 6
  have hfz14_7 := blk_frozen BK239.out 7
  have hfz14_8 := blk_frozen BK239.out 8
  have hfz14_9 := blk_frozen BK239.out 9
  have hfz14_10 := blk_frozen BK239.out 10
  go_upto_if 19 with (first | ((with_reducible refine gate_callee (f := 36) rfl ?_); refine goesL_ (some 17) rfl rfl Try.func36 (by kernel_rfl) rfl #[.agg #[.int .i64 a1_0, .int .i64 a1_1, .int .i64 a1_2, .slice A1_3 l1_3.length c1_3, .slice A1_4 l1_4.length c1_4, .int .i64 a1_5, .int .i64 a1_6, .slice A1_7 l1_7.length c1_7, .slice A1_8 l1_8.length c1_8, .slice A1_9 l1_9.length c1_9, .slice A1_10 l1_10.length c1_10], .int .i64 t240] rfl (by (try simp only [List.map_toArray, List.map_cons, List.map_nil]); first | done | rfl | (simp only [List.length_drop, List.length_take]; rfl)) ?_; (with_reducible refine (laws_szBlock.calls k a1_0 a1_1 a1_2 _ _ l1_3 _ _ l1_4 a1_5 a1_6 _ _ l1_7 _ _ l1_8 _ _ l1_9 _ _ l1_10 t240 t241 _ ?side1 ?side2 ?side3 ?side4 ?side5 ?side6 ?side7 ?side8 ?side9 ?side10 ?side11 ?side12 A11.out).mono ?_); (case side1 => repeat (first | exact (Kd.C_below HR1_3.out HB.out) | (with_reducible refine Kd.C_alloc ?_ _) | (with_reducible refine Kd.C_drewN ?_ _) | (with_reducible refine Kd.C_drew ?_))); (case side2 => exact HC1_3.out); (case side3 => repeat (first | exact (Kd.C_below HR1_4.out HB.out) | (with_reducible refine Kd.C_alloc ?_ _) | (with_reducible refine Kd.C_drewN ?_ _) | (with_reducible refine Kd.C_drew ?_))); (case side4 => exact HC1_4.out); (case side5 => repeat (first | exact (Kd.C_below HR1_7.out HB.out) | (with_reducible refine Kd.C_alloc ?_ _) | (with_reducible refine Kd.C_drewN ?_ _) | (with_reducible refine Kd.C_drew ?_))); (case side6 => exact HC1_7.out); (case side7 => repeat (first | exact (Kd.C_below HR1_8.out HB.out) | (with_reducible refine Kd.C_alloc ?_ _) | (with_reducible refine Kd.C_drewN ?_ _) | (with_reducible refine Kd.C_drew ?_))); (case side8 => exact HC1_8.out); (case side9 => repeat (first | exact (Kd.C_below HR1_9.out HB.out) | (with_reducible refine Kd.C_alloc ?_ _) | (with_reducible refine Kd.C_drewN ?_ _) | (with_reducible refine Kd.C_drew ?_))); (case side10 => exact HC1_9.out); (case side11 => repeat (first | exact (Kd.C_below HR1_10.out HB.out) | (with_reducible refine Kd.C_alloc ?_ _) | (with_reducible refine Kd.C_drewN ?_ _) | (with_reducible refine Kd.C_drew ?_))); (case side12 => exact HC1_10.out); rintro e w15 ⟨rfl, hb⟩; refine ⟨_, rfl, ?_⟩; have n0_ := Aside0.mk (blk_below (g := gb238) (o := .cells #[.int .i64 a0_0, .int .i64 a0_1, .int .i64 a0_2, .slice A0_3 l0_3.length c0_3, .slice A0_4 l0_4.length c0_4, .int .i64 a0_5, .int .i64 a0_6, .slice A0_7 l0_7.length c0_7, .slice A0_8 l0_8.length c0_8, .slice A0_9 l0_9.length c0_9, .slice A0_10 l0_10.length c0_10] 64 (0, 0)) (blk_mv BK238) hb); have n1_ := Aside0.mk (blk_below (g := gb239) (o := .cells #[.int .i64 a1_0, .int .i64 a1_1, .int .i64 a1_2, .slice A1_3 l1_3.length c1_3, .slice A1_4 l1_4.length c1_4, .int .i64 a1_5, .int .i64 a1_6, .slice A1_7 l1_7.length c1_7, .slice A1_8 l1_8.length c1_8, .slice A1_9 l1_9.length c1_9, .slice A1_10 l1_10.length c1_10] 64 (0, 0)) (blk_mv BK239) hb); have n2_ := Aside0.mk (below_step (by repeat (first | (with_reducible first | exact HB.out | apply below_alloc | apply pw_below_drewN | apply below_drew1 | refine below_set ?_ GE238.out | refine below_set ?_ GE239.out) | exact HB.out)) hb); clear BK238; clear BK239; clear HB; have BK238 := n0_; have BK239 := n1_; have HB := n2_; clear n0_ n1_ n2_; (try clear hb); (try clear hb2); (try clear hk); (try clear hi)))
  (try simp only [Act.put, List.setIfInBounds_toArray, List.set_cons_zero, List.set_cons_succ])
  have H := HC12.out
  clear HC12
  by_cases c16 : t241 < 0
  ·rw [if_pos c16] at H
   have c16b0 : decide (t241 < 0) = true := decide_eq_true c16
   clear c16
   (first | rw [c16b0] | (simp only [i64_w, i32_w]; rw [c16b0]) | skip)
   obtain rfl := Option.some.inj H
   go_wp2
   go_ret
   exact ⟨by first | rfl | (simp [errW_none, errW_some] <;> rfl) | (simp [*, errW_none, errW_some] <;> rfl), by repeat (first | (with_reducible first | exact HB.out | apply below_alloc | apply pw_below_drewN | apply below_drew1 | refine below_set ?_ GE238.out | refine below_set ?_ GE239.out) | exact HB.out)⟩
  ·rw [if_neg c16] at H
   have c16b0 : decide (t241 < 0) = false := decide_eq_false c16
   clear c16
   (first | rw [c16b0] | (simp only [i64_w, i32_w]; rw [c16b0]) | skip)
   replace H := Option.bind_eq_some_iff.mp H
   obtain ⟨⟨t242, t243, t244, t245, t248, t251, t252, t253, t256, t259, t262⟩, A170, H⟩ := H
   replace H : ((laws_toBlock.f k a1_0 a1_1 a1_2 l1_3 l1_4 a1_5 a1_6 l1_7 l1_8 l1_9 l1_10).bind fun bt265 => ((spec_BlockSame.f k t242 t243 t244 t245 t248 t251 t252 t253 t256 t259 t262 bt265.1 bt265.2.1 bt265.2.2.1 bt265.2.2.2.1 bt265.2.2.2.2.1 bt265.2.2.2.2.2.1 bt265.2.2.2.2.2.2.1 bt265.2.2.2.2.2.2.2.1 bt265.2.2.2.2.2.2.2.2.1 bt265.2.2.2.2.2.2.2.2.2.1 bt265.2.2.2.2.2.2.2.2.2.2).bind fun t288 => ((laws_toBlock.f k a0_0 a0_1 a0_2 l0_3 l0_4 a0_5 a0_6 l0_7 l0_8 l0_9 l0_10).bind fun bt289 => ((laws_toBlock.f k a1_0 a1_1 a1_2 l1_3 l1_4 a1_5 a1_6 l1_7 l1_8 l1_9 l1_10).bind fun bt313 => ((impl_BlockSame.f k bt289.1 bt289.2.1 bt289.2.2.1 bt289.2.2.2.1 bt289.2.2.2.2.1 bt289.2.2.2.2.2.1 bt289.2.2.2.2.2.2.1 bt289.2.2.2.2.2.2.2.1 bt289.2.2.2.2.2.2.2.2.1 bt289.2.2.2.2.2.2.2.2.2.1 bt289.2.2.2.2.2.2.2.2.2.2 bt313.1 bt313.2.1 bt313.2.2.1 bt313.2.2.2.1 bt313.2.2.2.2.1 bt313.2.2.2.2.2.1 bt313.2.2.2.2.2.2.1 bt313.2.2.2.2.2.2.2.1 bt313.2.2.2.2.2.2.2.2.1 bt313.2.2.2.2.2.2.2.2.2.1 bt313.2.2.2.2.2.2.2.2.2.2).bind fun t337 => (if (t337 != t288) = true then (none) else ((laws_toBlock.f k a0_0 a0_1 a0_2 l0_3 l0_4 a0_5 a0_6 l0_7 l0_8 l0_9 l0_10).bind fun bt338 => ((laws_eqBlock.f k bt289.1 bt289.2.1 bt289.2.2.1 bt289.2.2.2.1 bt289.2.2.2.2.1 bt289.2.2.2.2.2.1 bt289.2.2.2.2.2.2.1 bt289.2.2.2.2.2.2.2.1 bt289.2.2.2.2.2.2.2.2.1 bt289.2.2.2.2.2.2.2.2.2.1 bt289.2.2.2.2.2.2.2.2.2.2 bt338.1 bt338.2.1 bt338.2.2.1 bt338.2.2.2.1 bt338.2.2.2.2.1 bt338.2.2.2.2.2.1 bt338.2.2.2.2.2.2.1 bt338.2.2.2.2.2.2.2.1 bt338.2.2.2.2.2.2.2.2.1 bt338.2.2.2.2.2.2.2.2.2.1 bt338.2.2.2.2.2.2.2.2.2.2).bind fun t361 => (if t361 = true then ((laws_toBlock.f k a1_0 a1_1 a1_2 l1_3 l1_4 a1_5 a1_6 l1_7 l1_8 l1_9 l1_10).bind fun bt362 => ((laws_eqBlock.f k bt313.1 bt313.2.1 bt313.2.2.1 bt313.2.2.2.1 bt313.2.2.2.2.1 bt313.2.2.2.2.2.1 bt313.2.2.2.2.2.2.1 bt313.2.2.2.2.2.2.2.1 bt313.2.2.2.2.2.2.2.2.1 bt313.2.2.2.2.2.2.2.2.2.1 bt313.2.2.2.2.2.2.2.2.2.2 bt362.1 bt362.2.1 bt362.2.2.1 bt362.2.2.2.1 bt362.2.2.2.2.1 bt362.2.2.2.2.2.1 bt362.2.2.2.2.2.2.1 bt362.2.2.2.2.2.2.2.1 bt362.2.2.2.2.2.2.2.2.1 bt362.2.2.2.2.2.2.2.2.2.1 bt362.2.2.2.2.2.2.2.2.2.2).bind fun t385 => (if t385 = true then (some true) else (none)))) else (none)))))))))) = some r := H
   have A17 := Aside0.mk A170
   clear A170
   replace H := Option.bind_eq_some_iff.mp H
   obtain ⟨⟨t265, t266, t267, t268, t271, t274, t275, t276, t279, t282, t285⟩, A180, H⟩ := H
   replace H : ((spec_BlockSame.f k t242 t243 t244 t245 t248 t251 t252 t253 t256 t259 t262 t265 t266 t267 t268 t271 t274 t275 t276 t279 t282 t285).bind fun t288 => ((laws_toBlock.f k a0_0 a0_1 a0_2 l0_3 l0_4 a0_5 a0_6 l0_7 l0_8 l0_9 l0_10).bind fun bt289 => ((laws_toBlock.f k a1_0 a1_1 a1_2 l1_3 l1_4 a1_5 a1_6 l1_7 l1_8 l1_9 l1_10).bind fun bt313 => ((impl_BlockSame.f k bt289.1 bt289.2.1 bt289.2.2.1 bt289.2.2.2.1 bt289.2.2.2.2.1 bt289.2.2.2.2.2.1 bt289.2.2.2.2.2.2.1 bt289.2.2.2.2.2.2.2.1 bt289.2.2.2.2.2.2.2.2.1 bt289.2.2.2.2.2.2.2.2.2.1 bt289.2.2.2.2.2.2.2.2.2.2 bt313.1 bt313.2.1 bt313.2.2.1 bt313.2.2.2.1 bt313.2.2.2.2.1 bt313.2.2.2.2.2.1 bt313.2.2.2.2.2.2.1 bt313.2.2.2.2.2.2.2.1 bt313.2.2.2.2.2.2.2.2.1 bt313.2.2.2.2.2.2.2.2.2.1 bt313.2.2.2.2.2.2.2.2.2.2).bind fun t337 => (if (t337 != t288) = true then (none) else ((laws_toBlock.f k a0_0 a0_1 a0_2 l0_3 l0_4 a0_5 a0_6 l0_7 l0_8 l0_9 l0_10).bind fun bt338 => ((laws_eqBlock.f k bt289.1 bt289.2.1 bt289.2.2.1 bt289.2.2.2.1 bt289.2.2.2.2.1 bt289.2.2.2.2.2.1 bt289.2.2.2.2.2.2.1 bt289.2.2.2.2.2.2.2.1 bt289.2.2.2.2.2.2.2.2.1 bt289.2.2.2.2.2.2.2.2.2.1 bt289.2.2.2.2.2.2.2.2.2.2 bt338.1 bt338.2.1 bt338.2.2.1 bt338.2.2.2.1 bt338.2.2.2.2.1 bt338.2.2.2.2.2.1 bt338.2.2.2.2.2.2.1 bt338.2.2.2.2.2.2.2.1 bt338.2.2.2.2.2.2.2.2.1 bt338.2.2.2.2.2.2.2.2.2.1 bt338.2.2.2.2.2.2.2.2.2.2).bind fun t361 => (if t361 = true then ((laws_toBlock.f k a1_0 a1_1 a1_2 l1_3 l1_4 a1_5 a1_6 l1_7 l1_8 l1_9 l1_10).bind fun bt362 => ((laws_eqBlock.f k bt313.1 bt313.2.1 bt313.2.2.1 bt313.2.2.2.1 bt313.2.2.2.2.1 bt313.2.2.2.2.2.1 bt313.2.2.2.2.2.2.1 bt313.2.2.2.2.2.2.2.1 bt313.2.2.2.2.2.2.2.2.1 bt313.2.2.2.2.2.2.2.2.2.1 bt313.2.2.2.2.2.2.2.2.2.2 bt362.1 bt362.2.1 bt362.2.2.1 bt362.2.2.2.1 bt362.2.2.2.2.1 bt362.2.2.2.2.2.1 bt362.2.2.2.2.2.2.1 bt362.2.2.2.2.2.2.2.1 bt362.2.2.2.2.2.2.2.2.1 bt362.2.2.2.2.2.2.2.2.2.1 bt362.2.2.2.2.2.2.2.2.2.2).bind fun t385 => (if t385 = true then (some true) else (none)))) else (none))))))))) = some r := H
   have A18 := Aside0.mk A180
   clear A180
   replace H := Option.bind_eq_some_iff.mp H
   obtain ⟨t288, A190, H⟩ := H
   replace H : ((laws_toBlock.f k a0_0 a0_1 a0_2 l0_3 l0_4 a0_5 a0_6 l0_7 l0_8 l0_9 l0_10).bind fun bt289 => ((laws_toBlock.f k a1_0 a1_1 a1_2 l1_3 l1_4 a1_5 a1_6 l1_7 l1_8 l1_9 l1_10).bind fun bt313 => ((impl_BlockSame.f k bt289.1 bt289.2.1 bt289.2.2.1 bt289.2.2.2.1 bt289.2.2.2.2.1 bt289.2.2.2.2.2.1 bt289.2.2.2.2.2.2.1 bt289.2.2.2.2.2.2.2.1 bt289.2.2.2.2.2.2.2.2.1 bt289.2.2.2.2.2.2.2.2.2.1 bt289.2.2.2.2.2.2.2.2.2.2 bt313.1 bt313.2.1 bt313.2.2.1 bt313.2.2.2.1 bt313.2.2.2.2.1 bt313.2.2.2.2.2.1 bt313.2.2.2.2.2.2.1 bt313.2.2.2.2.2.2.2.1 bt313.2.2.2.2.2.2.2.2.1 bt313.2.2.2.2.2.2.2.2.2.1 bt313.2.2.2.2.2.2.2.2.2.2).bind fun t337 => (if (t337 != t288) = true then (none) else ((laws_toBlock.f k a0_0 a0_1 a0_2 l0_3 l0_4 a0_5 a0_6 l0_7 l0_8 l0_9 l0_10).bind fun bt338 => ((laws_eqBlock.f k bt289.1 bt289.2.1 bt289.2.2.1 bt289.2.2.2.1 bt289.2.2.2.2.1 bt289.2.2.2.2.2.1 bt289.2.2.2.2.2.2.1 bt289.2.2.2.2.2.2.2.1 bt289.2.2.2.2.2.2.2.2.1 bt289.2.2.2.2.2.2.2.2.2.1 bt289.2.2.2.2.2.2.2.2.2.2 bt338.1 bt338.2.1 bt338.2.2.1 bt338.2.2.2.1 bt338.2.2.2.2.1 bt338.2.2.2.2.2.1 bt338.2.2.2.2.2.2.1 bt338.2.2.2.2.2.2.2.1 bt338.2.2.2.2.2.2.2.2.1 bt338.2.2.2.2.2.2.2.2.2.1 bt338.2.2.2.2.2.2.2.2.2.2).bind fun t361 => (if t361 = true then ((laws_toBlock.f k a1_0 a1_1 a1_2 l1_3 l1_4 a1_5 a1_6 l1_7 l1_8 l1_9 l1_10).bind fun bt362 => ((laws_eqBlock.f k bt313.1 bt313.2.1 bt313.2.2.1 bt313.2.2.2.1 bt313.2.2.2.2.1 bt313.2.2.2.2.2.1 bt313.2.2.2.2.2.2.1 bt313.2.2.2.2.2.2.2.1 bt313.2.2.2.2.2.2.2.2.1 bt313.2.2.2.2.2.2.2.2.2.1 bt313.2.2.2.2.2.2.2.2.2.2 bt362.1 bt362.2.1 bt362.2.2.1 bt362.2.2.2.1 bt362.2.2.2.2.1 bt362.2.2.2.2.2.1 bt362.2.2.2.2.2.2.1 bt362.2.2.2.2.2.2.2.1 bt362.2.2.2.2.2.2.2.2.1 bt362.2.2.2.2.2.2.2.2.2.1 bt362.2.2.2.2.2.2.2.2.2.2).bind fun t385 => (if t385 = true then (some true) else (none)))) else (none)))))))) = some r := H
   have A19 := Aside0.mk A190
   clear A190
   replace H := Option.bind_eq_some_iff.mp H
   obtain ⟨⟨t289, t290, t291, t292, t295, t298, t299, t300, t303, t306, t309⟩, A200, H⟩ := H
   replace H : ((laws_toBlock.f k a1_0 a1_1 a1_2 l1_3 l1_4 a1_5 a1_6 l1_7 l1_8 l1_9 l1_10).bind fun bt313 => ((impl_BlockSame.f k t289 t290 t291 t292 t295 t298 t299 t300 t303 t306 t309 bt313.1 bt313.2.1 bt313.2.2.1 bt313.2.2.2.1 bt313.2.2.2.2.1 bt313.2.2.2.2.2.1 bt313.2.2.2.2.2.2.1 bt313.2.2.2.2.2.2.2.1 bt313.2.2.2.2.2.2.2.2.1 bt313.2.2.2.2.2.2.2.2.2.1 bt313.2.2.2.2.2.2.2.2.2.2).bind fun t337 => (if (t337 != t288) = true then (none) else ((laws_toBlock.f k a0_0 a0_1 a0_2 l0_3 l0_4 a0_5 a0_6 l0_7 l0_8 l0_9 l0_10).bind fun bt338 => ((laws_eqBlock.f k t289 t290 t291 t292 t295 t298 t299 t300 t303 t306 t309 bt338.1 bt338.2.1 bt338.2.2.1 bt338.2.2.2.1 bt338.2.2.2.2.1 bt338.2.2.2.2.2.1 bt338.2.2.2.2.2.2.1 bt338.2.2.2.2.2.2.2.1 bt338.2.2.2.2.2.2.2.2.1 bt338.2.2.2.2.2.2.2.2.2.1 bt338.2.2.2.2.2.2.2.2.2.2).bind fun t361 => (if t361 = true then ((laws_toBlock.f k a1_0 a1_1 a1_2 l1_3 l1_4 a1_5 a1_6 l1_7 l1_8 l1_9 l1_10).bind fun bt362 => ((laws_eqBlock.f k bt313.1 bt313.2.1 bt313.2.2.1 bt313.2.2.2.1 bt313.2.2.2.2.1 bt313.2.2.2.2.2.1 bt313.2.2.2.2.2.2.1 bt313.2.2.2.2.2.2.2.1 bt313.2.2.2.2.2.2.2.2.1 bt313.2.2.2.2.2.2.2.2.2.1 bt313.2.2.2.2.2.2.2.2.2.2 bt362.1 bt362.2.1 bt362.2.2.1 bt362.2.2.2.1 bt362.2.2.2.2.1 bt362.2.2.2.2.2.1 bt362.2.2.2.2.2.2.1 bt362.2.2.2.2.2.2.2.1 bt362.2.2.2.2.2.2.2.2.1 bt362.2.2.2.2.2.2.2.2.2.1 bt362.2.2.2.2.2.2.2.2.2.2).bind fun t385 => (if t385 = true then (some true) else (none)))) else (none))))))) = some r := H
   have A20 := Aside0.mk A200
   clear A200
   replace H := Option.bind_eq_some_iff.mp H
   obtain ⟨⟨t313, t314, t315, t316, t319, t322, t323, t324, t327, t330, t333⟩, A210, H⟩ := H
   replace H : ((impl_BlockSame.f k t289 t290 t291 t292 t295 t298 t299 t300 t303 t306 t309 t313 t314 t315 t316 t319 t322 t323 t324 t327 t330 t333).bind fun t337 => (if (t337 != t288) = true then (none) else ((laws_toBlock.f k a0_0 a0_1 a0_2 l0_3 l0_4 a0_5 a0_6 l0_7 l0_8 l0_9 l0_10).bind fun bt338 => ((laws_eqBlock.f k t289 t290 t291 t292 t295 t298 t299 t300 t303 t306 t309 bt338.1 bt338.2.1 bt338.2.2.1 bt338.2.2.2.1 bt338.2.2.2.2.1 bt338.2.2.2.2.2.1 bt338.2.2.2.2.2.2.1 bt338.2.2.2.2.2.2.2.1 bt338.2.2.2.2.2.2.2.2.1 bt338.2.2.2.2.2.2.2.2.2.1 bt338.2.2.2.2.2.2.2.2.2.2).bind fun t361 => (if t361 = true then ((laws_toBlock.f k a1_0 a1_1 a1_2 l1_3 l1_4 a1_5 a1_6 l1_7 l1_8 l1_9 l1_10).bind fun bt362 => ((laws_eqBlock.f k t313 t314 t315 t316 t319 t322 t323 t324 t327 t330 t333 bt362.1 bt362.2.1 bt362.2.2.1 bt362.2.2.2.1 bt362.2.2.2.2.1 bt362.2.2.2.2.2.1 bt362.2.2.2.2.2.2.1 bt362.2.2.2.2.2.2.2.1 bt362.2.2.2.2.2.2.2.2.1 bt362.2.2.2.2.2.2.2.2.2.1 bt362.2.2.2.2.2.2.2.2.2.2).bind fun t385 => (if t385 = true then (some true) else (none)))) else (none)))))) = some r := H
   have A21 := Aside0.mk A210
   clear A210
   replace H := Option.bind_eq_some_iff.mp H
   obtain ⟨t337, A220, H⟩ := H
   replace H : (if (t337 != t288) = true then (none) else ((laws_toBlock.f k a0_0 a0_1 a0_2 l0_3 l0_4 a0_5 a0_6 l0_7 l0_8 l0_9 l0_10).bind fun bt338 => ((laws_eqBlock.f k t289 t290 t291 t292 t295 t298 t299 t300 t303 t306 t309 bt338.1 bt338.2.1 bt338.2.2.1 bt338.2.2.2.1 bt338.2.2.2.2.1 bt338.2.2.2.2.2.1 bt338.2.2.2.2.2.2.1 bt338.2.2.2.2.2.2.2.1 bt338.2.2.2.2.2.2.2.2.1 bt338.2.2.2.2.2.2.2.2.2.1 bt338.2.2.2.2.2.2.2.2.2.2).bind fun t361 => (if t361 = true then ((laws_toBlock.f k a1_0 a1_1 a1_2 l1_3 l1_4 a1_5 a1_6 l1_7 l1_8 l1_9 l1_10).bind fun bt362 => ((laws_eqBlock.f k t313 t314 t315 t316 t319 t322 t323 t324 t327 t330 t333 bt362.1 bt362.2.1 bt362.2.2.1 bt362.2.2.2.1 bt362.2.2.2.2.1 bt362.2.2.2.2.2.1 bt362.2.2.2.2.2.2.1 bt362.2.2.2.2.2.2.2.1 bt362.2.2.2.2.2.2.2.2.1 bt362.2.2.2.2.2.2.2.2.2.1 bt362.2.2.2.2.2.2.2.2.2.2).bind fun t385 => (if t385 = true then (some true) else (none)))) else (none))))) = some r := H
   have A22 := Aside0.mk A220
   clear A220
   by_cases c23 : (t337 != t288) = true
   ·rw [if_pos c23] at H
    exact absurd H (by simp)
   ·rw [if_neg c23] at H
    have c23b0 : (t337 != t288) = false := by simpa using c23
    (try (have c23b1 : decide (t337 = t288) = true := by simpa using c23))
    (try (have c23b2 : (t337 == t288) = true := by simpa using c23))
    clear c23
    replace H := Option.bind_eq_some_iff.mp H
    obtain ⟨⟨t338, t339, t340, t341, t344, t347, t348, t349, t352, t355, t358⟩, A240, H⟩ := H
    replace H : ((laws_eqBlock.f k t289 t290 t291 t292 t295 t298 t299 t300 t303 t306 t309 t338 t339 t340 t341 t344 t347 t348 t349 t352 t355 t358).bind fun t361 => (if t361 = true then ((laws_toBlock.f k a1_0 a1_1 a1_2 l1_3 l1_4 a1_5 a1_6 l1_7 l1_8 l1_9 l1_10).bind fun bt362 => ((laws_eqBlock.f k t313 t314 t315 t316 t319 t322 t323 t324 t327 t330 t333 bt362.1 bt362.2.1 bt362.2.2.1 bt362.2.2.2.1 bt362.2.2.2.2.1 bt362.2.2.2.2.2.1 bt362.2.2.2.2.2.2.1 bt362.2.2.2.2.2.2.2.1 bt362.2.2.2.2.2.2.2.2.1 bt362.2.2.2.2.2.2.2.2.2.1 bt362.2.2.2.2.2.2.2.2.2.2).bind fun t385 => (if t385 = true then (some true) else (none)))) else (none))) = some r := H
    have A24 := Aside0.mk A240
    clear A240
    replace H := Option.bind_eq_some_iff.mp H
    obtain ⟨t361, A250, H⟩ := H
    replace H : (if t361 = true then ((laws_toBlock.f k a1_0 a1_1 a1_2 l1_3 l1_4 a1_5 a1_6 l1_7 l1_8 l1_9 l1_10).bind fun bt362 => ((laws_eqBlock.f k t313 t314 t315 t316 t319 t322 t323 t324 t327 t330 t333 bt362.1 bt362.2.1 bt362.2.2.1 bt362.2.2.2.1 bt362.2.2.2.2.1 bt362.2.2.2.2.2.1 bt362.2.2.2.2.2.2.1 bt362.2.2.2.2.2.2.2.1 bt362.2.2.2.2.2.2.2.2.1 bt362.2.2.2.2.2.2.2.2.2.1 bt362.2.2.2.2.2.2.2.2.2.2).bind fun t385 => (if t385 = true then (some true) else (none)))) else (none)) = some r := H
    have A25 := Aside0.mk A250
    clear A250
    by_cases c26 : t361 = true
    ·subst c26
     have H1 : ((laws_toBlock.f k a1_0 a1_1 a1_2 l1_3 l1_4 a1_5 a1_6 l1_7 l1_8 l1_9 l1_10).bind fun bt362 => ((laws_eqBlock.f k t313 t314 t315 t316 t319 t322 t323 t324 t327 t330 t333 bt362.1 bt362.2.1 bt362.2.2.1 bt362.2.2.2.1 bt362.2.2.2.2.1 bt362.2.2.2.2.2.1 bt362.2.2.2.2.2.2.1 bt362.2.2.2.2.2.2.2.1 bt362.2.2.2.2.2.2.2.2.1 bt362.2.2.2.2.2.2.2.2.2.1 bt362.2.2.2.2.2.2.2.2.2.2).bind fun t385 => (if t385 = true then (some true) else (none)))) = some r := by rw [if_pos rfl] at H; exact H
     clear H
     have H := H1
     clear H1
     replace H := Option.bind_eq_some_iff.mp H
     obtain ⟨⟨t362, t363, t364, t365, t368, t371, t372, t373, t376, t379, t382⟩, A270, H⟩ := H
     replace H : ((laws_eqBlock.f k t313 t314 t315 t316 t319 t322 t323 t324 t327 t330 t333 t362 t363 t364 t365 t368 t371 t372 t373 t376 t379 t382).bind fun t385 => (if t385 = true then (some true) else (none))) = some r := H
     have A27 := Aside0.mk A270
     clear A270
     replace H := Option.bind_eq_some_iff.mp H
     obtain ⟨t385, A280, H⟩ := H
     replace H : (if t385 = true then (some true) else (none)) = some r := H
     have A28 := Aside0.mk A280
     clear A280
     by_cases c29 : t385 = true
     ·subst c29
      have H1 : (some true) = some r := by rw [if_pos rfl] at H; exact H
      clear H
      have H := H1
      clear H1
      obtain rfl := Option.some.inj H
      try go_wp2
      have n0_ := Aside0.mk (blk_drew BK238.out)
      have n1_ := Aside0.mk (blk_drew BK239.out)
      have n2_ := Aside0.mk (below_drew1 HB.out)
      clear BK238
      clear BK239
      clear HB
      have BK238 := n0_
      have BK239 := n1_
      have HB := n2_
      clear n0_ n1_ n2_
      refine start_ (n := 6) (S := fun w' => w'.cell? ⟨gb238, 0, none⟩ = some (.int .i64 a0_0) ∧ w'.cell? ⟨gb238, 1, none⟩ = some (.int .i64 a0_1) ∧ w'.cell? ⟨gb238, 2, none⟩ = some (.int .i64 a0_2) ∧ w'.cell? ⟨gb238, 3, none⟩ = some (.slice A0_3 l0_3.length c0_3) ∧ w'.cell? ⟨gb238, 4, none⟩ = some (.slice A0_4 l0_4.length c0_4) ∧ w'.cell? ⟨gb238, 5, none⟩ = some (.int .i64 a0_5) ∧ w'.cell? ⟨gb238, 6, none⟩ = some (.int .i64 a0_6) ∧ w'.cell? ⟨gb238, 7, none⟩ = some (.slice A0_7 l0_7.length c0_7) ∧ w'.cell? ⟨gb238, 8, none⟩ = some (.slice A0_8 l0_8.length c0_8) ∧ w'.cell? ⟨gb238, 9, none⟩ = some (.slice A0_9 l0_9.length c0_9) ∧ w'.cell? ⟨gb238, 10, none⟩ = some (.slice A0_10 l0_10.length c0_10) ∧ w'.cell? ⟨gb239, 0, none⟩ = some (.int .i64 a1_0) ∧ w'.cell? ⟨gb239, 1, none⟩ = some (.int .i64 a1_1) ∧ w'.cell? ⟨gb239, 2, none⟩ = some (.int .i64 a1_2) ∧ w'.cell? ⟨gb239, 3, none⟩ = some (.slice A1_3 l1_3.length c1_3) ∧ w'.cell? ⟨gb239, 4, none⟩ = some (.slice A1_4 l1_4.length c1_4) ∧ w'.cell? ⟨gb239, 5, none⟩ = some (.int .i64 a1_5) ∧ w'.cell? ⟨gb239, 6, none⟩ = some (.int .i64 a1_6) ∧ w'.cell? ⟨gb239, 7, none⟩ = some (.slice A1_7 l1_7.length c1_7) ∧ w'.cell? ⟨gb239, 8, none⟩ = some (.slice A1_8 l1_8.length c1_8) ∧ w'.cell? ⟨gb239, 9, none⟩ = some (.slice A1_9 l1_9.length c1_9) ∧ w'.cell? ⟨gb239, 10, none⟩ = some (.slice A1_10 l1_10.length c1_10)) (ds := []) #[false, false, false, false, false, false] (by kernel_rfl) rfl rfl ⟨(blk_cell BK238.out 0).trans rfl, (blk_cell BK238.out 1).trans rfl, (blk_cell BK238.out 2).trans rfl, (blk_cell BK238.out 3).trans rfl, (blk_cell BK238.out 4).trans rfl, (blk_cell BK238.out 5).trans rfl, (blk_cell BK238.out 6).trans rfl, (blk_cell BK238.out 7).trans rfl, (blk_cell BK238.out 8).trans rfl, (blk_cell BK238.out 9).trans rfl, (blk_cell BK238.out 10).trans rfl, (blk_cell BK239.out 0).trans rfl, (blk_cell BK239.out 1).trans rfl, (blk_cell BK239.out 2).trans rfl, (blk_cell BK239.out 3).trans rfl, (blk_cell BK239.out 4).trans rfl, (blk_cell BK239.out 5).trans rfl, (blk_cell BK239.out 6).trans rfl, (blk_cell BK239.out 7).trans rfl, (blk_cell BK239.out 8).trans rfl, (blk_cell BK239.out 9).trans rfl, (blk_cell BK239.out 10).trans rfl⟩ (fun hHeld => ?_)
      generalize w15.drew = w30 at BK238 BK239 HB hHeld ⊢
      refine take_ (i := 0) (N := some 20) (v := ?_) (a' := ?_) #[true, false, false, false, false, false] rfl rfl (by kernel_rfl) (fun _ _ _ h => h) (Or.inl ⟨by rfl, ?_⟩) hHeld ?_ ?_
      rotate_left
      ·rintro w' ⟨s0, s1, s2, s3, s4, s5, s6, s7, s8, s9, s10, s11, s12, s13, s14, s15, s16, s17, s18, s19, s20, s21⟩
       go_simp
       with_reducible rfl
      rotate_left
      ·simp only [Act.put, List.setIfInBounds_toArray, List.set_cons_zero, List.set_cons_succ, i64_w, i32_w]
       rfl
      refine take_ (i := 2) (N := some 22) (v := ?_) (a' := ?_) #[true, false, true, false, false, false] rfl rfl (by kernel_rfl) (fun _ _ _ h => h) (Or.inl ⟨by rfl, ?_⟩) hHeld ?_ ?_
      rotate_left
      ·rintro w' ⟨s0, s1, s2, s3, s4, s5, s6, s7, s8, s9, s10, s11, s12, s13, s14, s15, s16, s17, s18, s19, s20, s21⟩
       go_simp
       with_reducible rfl
      rotate_left
      ·simp only [Act.put, List.setIfInBounds_toArray, List.set_cons_zero, List.set_cons_succ, i64_w, i32_w]
       rfl
      refine one_ (i := 1) (N := some 21) #[true, true, true, false, false, false] rfl rfl (by kernel_rfl) (by decide) (fun K hK => ?_)
      refine goes_ Try.func38 (by kernel_rfl) rfl #[.agg #[.int .i64 a0_0, .int .i64 a0_1, .int .i64 a0_2, .slice A0_3 l0_3.length c0_3, .slice A0_4 l0_4.length c0_4, .int .i64 a0_5, .int .i64 a0_6, .slice A0_7 l0_7.length c0_7, .slice A0_8 l0_8.length c0_8, .slice A0_9 l0_9.length c0_9, .slice A0_10 l0_10.length c0_10]] (by rfl) rfl rfl (by (try simp only [List.map_toArray, List.map_cons, List.map_nil]); first | done | rfl | (simp only [List.length_drop, List.length_take]; rfl)) ?_
      with_reducible refine (laws_toBlock.calls k a0_0 a0_1 a0_2 _ _ l0_3 _ _ l0_4 a0_5 a0_6 _ _ l0_7 _ _ l0_8 _ _ l0_9 _ _ l0_10 t242 t243 t244 t245 t248 t251 t252 t253 t256 t259 t262 _ ?side1 ?side2 ?side3 ?side4 ?side5 ?side6 ?side7 ?side8 ?side9 ?side10 ?side11 ?side12 A17.out).mono ?_
      (case side1 => repeat (first | exact (Kd.C_below HR0_3.out HB.out) | (with_reducible refine Kd.C_alloc ?_ _) | (with_reducible refine Kd.C_drewN ?_ _) | (with_reducible refine Kd.C_drew ?_)))
      (case side2 => exact HC0_3.out)
      (case side3 => repeat (first | exact (Kd.C_below HR0_4.out HB.out) | (with_reducible refine Kd.C_alloc ?_ _) | (with_reducible refine Kd.C_drewN ?_ _) | (with_reducible refine Kd.C_drew ?_)))
      (case side4 => exact HC0_4.out)
      (case side5 => repeat (first | exact (Kd.C_below HR0_7.out HB.out) | (with_reducible refine Kd.C_alloc ?_ _) | (with_reducible refine Kd.C_drewN ?_ _) | (with_reducible refine Kd.C_drew ?_)))
      (case side6 => exact HC0_7.out)
      (case side7 => repeat (first | exact (Kd.C_below HR0_8.out HB.out) | (with_reducible refine Kd.C_alloc ?_ _) | (with_reducible refine Kd.C_drewN ?_ _) | (with_reducible refine Kd.C_drew ?_)))
      (case side8 => exact HC0_8.out)
      (case side9 => repeat (first | exact (Kd.C_below HR0_9.out HB.out) | (with_reducible refine Kd.C_alloc ?_ _) | (with_reducible refine Kd.C_drewN ?_ _) | (with_reducible refine Kd.C_drew ?_)))
      (case side10 => exact HC0_9.out)
      (case side11 => repeat (first | exact (Kd.C_below HR0_10.out HB.out) | (with_reducible refine Kd.C_alloc ?_ _) | (with_reducible refine Kd.C_drewN ?_ _) | (with_reducible refine Kd.C_drew ?_)))
      (case side12 => exact HC0_10.out)
      rintro e w31 ⟨v246, v249, v254, v257, v260, v263, rfl, ho0, ho1, ho2, ho3, ho4, ho5, hb⟩
      refine ⟨_, rfl, ?_⟩
      have n0_ := Aside0.mk (Kd.R_lower ho0 (below_size (by repeat (first | (with_reducible first | exact HB.out | apply below_alloc | apply pw_below_drewN | apply below_drew1 | refine below_set ?_ GE238.out | refine below_set ?_ GE239.out) | exact HB.out))))
      have n1_ := Aside0.mk (Kd.R_lower ho1 (below_size (by repeat (first | (with_reducible first | exact HB.out | apply below_alloc | apply pw_below_drewN | apply below_drew1 | refine below_set ?_ GE238.out | refine below_set ?_ GE239.out) | exact HB.out))))
      have n2_ := Aside0.mk (Kd.R_lower ho2 (below_size (by repeat (first | (with_reducible first | exact HB.out | apply below_alloc | apply pw_below_drewN | apply below_drew1 | refine below_set ?_ GE238.out | refine below_set ?_ GE239.out) | exact HB.out))))
      have n3_ := Aside0.mk (Kd.R_lower ho3 (below_size (by repeat (first | (with_reducible first | exact HB.out | apply below_alloc | apply pw_below_drewN | apply below_drew1 | refine below_set ?_ GE238.out | refine below_set ?_ GE239.out) | exact HB.out))))
      have n4_ := Aside0.mk (Kd.S_lower ho4 (below_size (by repeat (first | (with_reducible first | exact HB.out | apply below_alloc | apply pw_below_drewN | apply below_drew1 | refine below_set ?_ GE238.out | refine below_set ?_ GE239.out) | exact HB.out))))
      have n5_ := Aside0.mk (Kd.S_lower ho5 (below_size (by repeat (first | (with_reducible first | exact HB.out | apply below_alloc | apply pw_below_drewN | apply below_drew1 | refine below_set ?_ GE238.out | refine below_set ?_ GE239.out) | exact HB.out))))
      have n6_ := Aside0.mk (blk_below (g := gb238) (o := .cells #[.int .i64 a0_0, .int .i64 a0_1, .int .i64 a0_2, .slice A0_3 l0_3.length c0_3, .slice A0_4 l0_4.length c0_4, .int .i64 a0_5, .int .i64 a0_6, .slice A0_7 l0_7.length c0_7, .slice A0_8 l0_8.length c0_8, .slice A0_9 l0_9.length c0_9, .slice A0_10 l0_10.length c0_10] 64 (0, 0)) (blk_mv BK238) hb)
      have n7_ := Aside0.mk (blk_below (g := gb239) (o := .cells #[.int .i64 a1_0, .int .i64 a1_1, .int .i64 a1_2, .slice A1_3 l1_3.length c1_3, .slice A1_4 l1_4.length c1_4, .int .i64 a1_5, .int .i64 a1_6, .slice A1_7 l1_7.length c1_7, .slice A1_8 l1_8.length c1_8, .slice A1_9 l1_9.length c1_9, .slice A1_10 l1_10.length c1_10] 64 (0, 0)) (blk_mv BK239) hb)
      have n8_ := Aside0.mk (below_step (by repeat (first | (with_reducible first | exact HB.out | apply below_alloc | apply pw_below_drewN | apply below_drew1 | refine below_set ?_ GE238.out | refine below_set ?_ GE239.out) | exact HB.out)) hb)
      clear BK238
      clear BK239
      clear HB
      have HO247 := n0_
      have HO250 := n1_
      have HO255 := n2_
      have HO258 := n3_
      have HO261 := n4_
      have HO264 := n5_
      have BK238 := n6_
      have BK239 := n7_
      have HB := n8_
      clear n0_ n1_ n2_ n3_ n4_ n5_ n6_ n7_ n8_
      (try clear hb)
      (try clear hb2)
      (try clear hk)
      (try clear hi)
      (try clear ho0)
      (try clear ho1)
      (try clear ho2)
      (try clear ho3)
      (try clear ho4)
      (try clear ho5)
      refine hK.out _ _ ⟨(blk_cell BK238.out 0).trans rfl, (blk_cell BK238.out 1).trans rfl, (blk_cell BK238.out 2).trans rfl, (blk_cell BK238.out 3).trans rfl, (blk_cell BK238.out 4).trans rfl, (blk_cell BK238.out 5).trans rfl, (blk_cell BK238.out 6).trans rfl, (blk_cell BK238.out 7).trans rfl, (blk_cell BK238.out 8).trans rfl, (blk_cell BK238.out 9).trans rfl, (blk_cell BK238.out 10).trans rfl, (blk_cell BK239.out 0).trans rfl, (blk_cell BK239.out 1).trans rfl, (blk_cell BK239.out 2).trans rfl, (blk_cell BK239.out 3).trans rfl, (blk_cell BK239.out 4).trans rfl, (blk_cell BK239.out 5).trans rfl, (blk_cell BK239.out 6).trans rfl, (blk_cell BK239.out 7).trans rfl, (blk_cell BK239.out 8).trans rfl, (blk_cell BK239.out 9).trans rfl, (blk_cell BK239.out 10).trans rfl⟩ (fun hHeld => ?_)
      clear hK K
      refine norm_ (a' := ?_) ?_ ?_
      rotate_left
      ·show Act.put _ (some 21) _ = _
       simp only [Act.put, List.setIfInBounds_toArray, List.set_cons_zero, List.set_cons_succ, i64_w, i32_w]
       rfl
      refine one_ (i := 3) (N := some 23) #[true, true, true, true, false, false] rfl rfl (by kernel_rfl) (by decide) (fun K hK => ?_)
      refine goes_ Try.func38 (by kernel_rfl) rfl #[.agg #[.int .i64 a1_0, .int .i64 a1_1, .int .i64 a1_2, .slice A1_3 l1_3.length c1_3, .slice A1_4 l1_4.length c1_4, .int .i64 a1_5, .int .i64 a1_6, .slice A1_7 l1_7.length c1_7, .slice A1_8 l1_8.length c1_8, .slice A1_9 l1_9.length c1_9, .slice A1_10 l1_10.length c1_10]] (by rfl) rfl rfl (by (try simp only [List.map_toArray, List.map_cons, List.map_nil]); first | done | rfl | (simp only [List.length_drop, List.length_take]; rfl)) ?_
      with_reducible refine (laws_toBlock.calls k a1_0 a1_1 a1_2 _ _ l1_3 _ _ l1_4 a1_5 a1_6 _ _ l1_7 _ _ l1_8 _ _ l1_9 _ _ l1_10 t265 t266 t267 t268 t271 t274 t275 t276 t279 t282 t285 _ ?side1 ?side2 ?side3 ?side4 ?side5 ?side6 ?side7 ?side8 ?side9 ?side10 ?side11 ?side12 A18.out).mono ?_
      (case side1 => repeat (first | exact (Kd.C_below HR1_3.out HB.out) | (with_reducible refine Kd.C_alloc ?_ _) | (with_reducible refine Kd.C_drewN ?_ _) | (with_reducible refine Kd.C_drew ?_)))
      (case side2 => exact HC1_3.out)
      (case side3 => repeat (first | exact (Kd.C_below HR1_4.out HB.out) | (with_reducible refine Kd.C_alloc ?_ _) | (with_reducible refine Kd.C_drewN ?_ _) | (with_reducible refine Kd.C_drew ?_)))
      (case side4 => exact HC1_4.out)
      (case side5 => repeat (first | exact (Kd.C_below HR1_7.out HB.out) | (with_reducible refine Kd.C_alloc ?_ _) | (with_reducible refine Kd.C_drewN ?_ _) | (with_reducible refine Kd.C_drew ?_)))
      (case side6 => exact HC1_7.out)
      (case side7 => repeat (first | exact (Kd.C_below HR1_8.out HB.out) | (with_reducible refine Kd.C_alloc ?_ _) | (with_reducible refine Kd.C_drewN ?_ _) | (with_reducible refine Kd.C_drew ?_)))
      (case side8 => exact HC1_8.out)
      (case side9 => repeat (first | exact (Kd.C_below HR1_9.out HB.out) | (with_reducible refine Kd.C_alloc ?_ _) | (with_reducible refine Kd.C_drewN ?_ _) | (with_reducible refine Kd.C_drew ?_)))
      (case side10 => exact HC1_9.out)
      (case side11 => repeat (first | exact (Kd.C_below HR1_10.out HB.out) | (with_reducible refine Kd.C_alloc ?_ _) | (with_reducible refine Kd.C_drewN ?_ _) | (with_reducible refine Kd.C_drew ?_)))
      (case side12 => exact HC1_10.out)
      rintro e w32 ⟨v269, v272, v277, v280, v283, v286, rfl, ho0, ho1, ho2, ho3, ho4, ho5, hb⟩
      refine ⟨_, rfl, ?_⟩
      have n0_ := Aside0.mk (Kd.R_mono (Kd.R_told (Kd.R_told (Kd.R_told (Kd.R_told (Kd.R_old (Kd.R_mv HO247) hb) (Kd.R_base ho0)) (Kd.R_base ho1)) (Kd.R_base ho2)) (Kd.R_base ho3)) (fun _ h_ => h_.1))
      have n1_ := Aside0.mk (Kd.R_mono (Kd.R_told (Kd.R_told (Kd.R_told (Kd.R_told (Kd.R_old (Kd.R_mv HO250) hb) (Kd.R_base ho0)) (Kd.R_base ho1)) (Kd.R_base ho2)) (Kd.R_base ho3)) (fun _ h_ => h_.1))
      have n2_ := Aside0.mk (Kd.R_mono (Kd.R_told (Kd.R_told (Kd.R_told (Kd.R_told (Kd.R_old (Kd.R_mv HO255) hb) (Kd.R_base ho0)) (Kd.R_base ho1)) (Kd.R_base ho2)) (Kd.R_base ho3)) (fun _ h_ => h_.1))
      have n3_ := Aside0.mk (Kd.R_mono (Kd.R_told (Kd.R_told (Kd.R_told (Kd.R_told (Kd.R_old (Kd.R_mv HO258) hb) (Kd.R_base ho0)) (Kd.R_base ho1)) (Kd.R_base ho2)) (Kd.R_base ho3)) (fun _ h_ => h_.1))
      have n4_ := Aside0.mk (Kd.S_mono (Kd.S_told (Kd.S_told (Kd.S_told (Kd.S_told (Kd.S_told (Kd.S_told (Kd.S_old (Kd.S_mv HO261) hb) (Kd.R_base ho0)) (Kd.R_base ho1)) (Kd.R_base ho2)) (Kd.R_base ho3)) (Kd.S_base ho4)) (Kd.S_base ho5)) (fun _ h_ => h_.1))
      have n5_ := Aside0.mk (Kd.S_mono (Kd.S_told (Kd.S_told (Kd.S_told (Kd.S_told (Kd.S_told (Kd.S_told (Kd.S_old (Kd.S_mv HO264) hb) (Kd.R_base ho0)) (Kd.R_base ho1)) (Kd.R_base ho2)) (Kd.R_base ho3)) (Kd.S_base ho4)) (Kd.S_base ho5)) (fun _ h_ => h_.1))
      have n6_ := Aside0.mk (Kd.R_lower (Kd.R_new' (Kd.R_new' (Kd.R_new' (Kd.R_new' ho0 (Kd.R_lt (Kd.R_mv HO247))) (Kd.R_lt (Kd.R_mv HO250))) (Kd.R_lt (Kd.R_mv HO255))) (Kd.R_lt (Kd.R_mv HO258))) (below_size (by repeat (first | (with_reducible first | exact HB.out | apply below_alloc | apply pw_below_drewN | apply below_drew1 | refine below_set ?_ GE238.out | refine below_set ?_ GE239.out) | exact HB.out))))
      have n7_ := Aside0.mk (Kd.R_lower (Kd.R_new' (Kd.R_new' (Kd.R_new' (Kd.R_new' ho1 (Kd.R_lt (Kd.R_mv HO247))) (Kd.R_lt (Kd.R_mv HO250))) (Kd.R_lt (Kd.R_mv HO255))) (Kd.R_lt (Kd.R_mv HO258))) (below_size (by repeat (first | (with_reducible first | exact HB.out | apply below_alloc | apply pw_below_drewN | apply below_drew1 | refine below_set ?_ GE238.out | refine below_set ?_ GE239.out) | exact HB.out))))
      have n8_ := Aside0.mk (Kd.R_lower (Kd.R_new' (Kd.R_new' (Kd.R_new' (Kd.R_new' ho2 (Kd.R_lt (Kd.R_mv HO247))) (Kd.R_lt (Kd.R_mv HO250))) (Kd.R_lt (Kd.R_mv HO255))) (Kd.R_lt (Kd.R_mv HO258))) (below_size (by repeat (first | (with_reducible first | exact HB.out | apply below_alloc | apply pw_below_drewN | apply below_drew1 | refine below_set ?_ GE238.out | refine below_set ?_ GE239.out) | exact HB.out))))
      have n9_ := Aside0.mk (Kd.R_lower (Kd.R_new' (Kd.R_new' (Kd.R_new' (Kd.R_new' ho3 (Kd.R_lt (Kd.R_mv HO247))) (Kd.R_lt (Kd.R_mv HO250))) (Kd.R_lt (Kd.R_mv HO255))) (Kd.R_lt (Kd.R_mv HO258))) (below_size (by repeat (first | (with_reducible first | exact HB.out | apply below_alloc | apply pw_below_drewN | apply below_drew1 | refine below_set ?_ GE238.out | refine below_set ?_ GE239.out) | exact HB.out))))
      have n10_ := Aside0.mk (Kd.S_lower (Kd.S_new' (Kd.S_new' (Kd.S_new' (Kd.S_new' (Kd.S_new' (Kd.S_new' ho4 (Kd.R_lt (Kd.R_mv HO247))) (Kd.R_lt (Kd.R_mv HO250))) (Kd.R_lt (Kd.R_mv HO255))) (Kd.R_lt (Kd.R_mv HO258))) (Kd.S_lt (Kd.S_mv HO261))) (Kd.S_lt (Kd.S_mv HO264))) (below_size (by repeat (first | (with_reducible first | exact HB.out | apply below_alloc | apply pw_below_drewN | apply below_drew1 | refine below_set ?_ GE238.out | refine below_set ?_ GE239.out) | exact HB.out))))
      have n11_ := Aside0.mk (Kd.S_lower (Kd.S_new' (Kd.S_new' (Kd.S_new' (Kd.S_new' (Kd.S_new' (Kd.S_new' ho5 (Kd.R_lt (Kd.R_mv HO247))) (Kd.R_lt (Kd.R_mv HO250))) (Kd.R_lt (Kd.R_mv HO255))) (Kd.R_lt (Kd.R_mv HO258))) (Kd.S_lt (Kd.S_mv HO261))) (Kd.S_lt (Kd.S_mv HO264))) (below_size (by repeat (first | (with_reducible first | exact HB.out | apply below_alloc | apply pw_below_drewN | apply below_drew1 | refine below_set ?_ GE238.out | refine below_set ?_ GE239.out) | exact HB.out))))
      have n12_ := Aside0.mk (blk_below (g := gb238) (o := .cells #[.int .i64 a0_0, .int .i64 a0_1, .int .i64 a0_2, .slice A0_3 l0_3.length c0_3, .slice A0_4 l0_4.length c0_4, .int .i64 a0_5, .int .i64 a0_6, .slice A0_7 l0_7.length c0_7, .slice A0_8 l0_8.length c0_8, .slice A0_9 l0_9.length c0_9, .slice A0_10 l0_10.length c0_10] 64 (0, 0)) (blk_mv BK238) hb)
      have n13_ := Aside0.mk (blk_below (g := gb239) (o := .cells #[.int .i64 a1_0, .int .i64 a1_1, .int .i64 a1_2, .slice A1_3 l1_3.length c1_3, .slice A1_4 l1_4.length c1_4, .int .i64 a1_5, .int .i64 a1_6, .slice A1_7 l1_7.length c1_7, .slice A1_8 l1_8.length c1_8, .slice A1_9 l1_9.length c1_9, .slice A1_10 l1_10.length c1_10] 64 (0, 0)) (blk_mv BK239) hb)
      have n14_ := Aside0.mk (below_step (by repeat (first | (with_reducible first | exact HB.out | apply below_alloc | apply pw_below_drewN | apply below_drew1 | refine below_set ?_ GE238.out | refine below_set ?_ GE239.out) | exact HB.out)) hb)
      clear HO247
      clear HO250
      clear HO255
      clear HO258
      clear HO261
      clear HO264
      clear BK238
      clear BK239
      clear HB
      have HO247 := n0_
      have HO250 := n1_
      have HO255 := n2_
      have HO258 := n3_
      have HO261 := n4_
      have HO264 := n5_
      have HO270 := n6_
      have HO273 := n7_
      have HO278 := n8_
      have HO281 := n9_
      have HO284 := n10_
      have HO287 := n11_
      have BK238 := n12_
      have BK239 := n13_
      have HB := n14_
      clear n0_ n1_ n2_ n3_ n4_ n5_ n6_ n7_ n8_ n9_ n10_ n11_ n12_ n13_ n14_
      (try clear hb)
      (try clear hb2)
      (try clear hk)
      (try clear hi)
      (try clear ho0)
      (try clear ho1)
      (try clear ho2)
      (try clear ho3)
      (try clear ho4)
      (try clear ho5)
      obtain ⟨Ao33, co33, eo33⟩ := Kd.R_slice HO247.out
      (first | subst eo33 | (injection eo33 with f1_ f2_ f3_; have f4_ := f1_.symm; have f5_ := f3_.symm; clear f1_ f2_ f3_; subst f4_; subst f5_))
      obtain ⟨Ao34, co34, eo34⟩ := Kd.R_slice HO250.out
      (first | subst eo34 | (injection eo34 with f1_ f2_ f3_; have f4_ := f1_.symm; have f5_ := f3_.symm; clear f1_ f2_ f3_; subst f4_; subst f5_))
      obtain ⟨Ao35, co35, eo35⟩ := Kd.R_slice HO255.out
      (first | subst eo35 | (injection eo35 with f1_ f2_ f3_; have f4_ := f1_.symm; have f5_ := f3_.symm; clear f1_ f2_ f3_; subst f4_; subst f5_))
      obtain ⟨Ao36, co36, eo36⟩ := Kd.R_slice HO258.out
      (first | subst eo36 | (injection eo36 with f1_ f2_ f3_; have f4_ := f1_.symm; have f5_ := f3_.symm; clear f1_ f2_ f3_; subst f4_; subst f5_))
      obtain ⟨Ao37, co37, eo37⟩ := Kd.S_slice HO261.out
      (first | subst eo37 | (injection eo37 with f1_ f2_ f3_; have f4_ := f1_.symm; have f5_ := f3_.symm; clear f1_ f2_ f3_; subst f4_; subst f5_))
      obtain ⟨Ao38, co38, eo38⟩ := Kd.S_slice HO264.out
      (first | subst eo38 | (injection eo38 with f1_ f2_ f3_; have f4_ := f1_.symm; have f5_ := f3_.symm; clear f1_ f2_ f3_; subst f4_; subst f5_))
      obtain ⟨Ao39, co39, eo39⟩ := Kd.R_slice HO270.out
      (first | subst eo39 | (injection eo39 with f1_ f2_ f3_; have f4_ := f1_.symm; have f5_ := f3_.symm; clear f1_ f2_ f3_; subst f4_; subst f5_))
      obtain ⟨Ao40, co40, eo40⟩ := Kd.R_slice HO273.out
      (first | subst eo40 | (injection eo40 with f1_ f2_ f3_; have f4_ := f1_.symm; have f5_ := f3_.symm; clear f1_ f2_ f3_; subst f4_; subst f5_))
      obtain ⟨Ao41, co41, eo41⟩ := Kd.R_slice HO278.out
      (first | subst eo41 | (injection eo41 with f1_ f2_ f3_; have f4_ := f1_.symm; have f5_ := f3_.symm; clear f1_ f2_ f3_; subst f4_; subst f5_))
      obtain ⟨Ao42, co42, eo42⟩ := Kd.R_slice HO281.out
      (first | subst eo42 | (injection eo42 with f1_ f2_ f3_; have f4_ := f1_.symm; have f5_ := f3_.symm; clear f1_ f2_ f3_; subst f4_; subst f5_))
      obtain ⟨Ao43, co43, eo43⟩ := Kd.S_slice HO284.out
      (first | subst eo43 | (injection eo43 with f1_ f2_ f3_; have f4_ := f1_.symm; have f5_ := f3_.symm; clear f1_ f2_ f3_; subst f4_; subst f5_))
      obtain ⟨Ao44, co44, eo44⟩ := Kd.S_slice HO287.out
      (first | subst eo44 | (injection eo44 with f1_ f2_ f3_; have f4_ := f1_.symm; have f5_ := f3_.symm; clear f1_ f2_ f3_; subst f4_; subst f5_))
      refine hK.out _ _ ⟨(blk_cell BK238.out 0).trans rfl, (blk_cell BK238.out 1).trans rfl, (blk_cell BK238.out 2).trans rfl, (blk_cell BK238.out 3).trans rfl, (blk_cell BK238.out 4).trans rfl, (blk_cell BK238.out 5).trans rfl, (blk_cell BK238.out 6).trans rfl, (blk_cell BK238.out 7).trans rfl, (blk_cell BK238.out 8).trans rfl, (blk_cell BK238.out 9).trans rfl, (blk_cell BK238.out 10).trans rfl, (blk_cell BK239.out 0).trans rfl, (blk_cell BK239.out 1).trans rfl, (blk_cell BK239.out 2).trans rfl, (blk_cell BK239.out 3).trans rfl, (blk_cell BK239.out 4).trans rfl, (blk_cell BK239.out 5).trans rfl, (blk_cell BK239.out 6).trans rfl, (blk_cell BK239.out 7).trans rfl, (blk_cell BK239.out 8).trans rfl, (blk_cell BK239.out 9).trans rfl, (blk_cell BK239.out 10).trans rfl⟩ (fun hHeld => ?_)
      clear hK K
      refine norm_ (a' := ?_) ?_ ?_
      rotate_left
      ·show Act.put _ (some 23) _ = _
       simp only [Act.put, List.setIfInBounds_toArray, List.set_cons_zero, List.set_cons_succ, i64_w, i32_w]
       rfl
      refine one_ (i := 4) (N := some 24) #[true, true, true, true, true, false] rfl rfl (by kernel_rfl) (by decide) (fun K hK => ?_)
      refine goes_ Try.func37 (by kernel_rfl) rfl #[.agg #[.int .i64 t242, .int .i64 t243, .int .i64 t244, .slice Ao33 t245.length co33, .slice Ao34 t248.length co34, .int .i64 t251, .int .i64 t252, .slice Ao35 t253.length co35, .slice Ao36 t256.length co36, .slice Ao37 t259.length co37, .slice Ao38 t262.length co38], .agg #[.int .i64 t265, .int .i64 t266, .int .i64 t267, .slice Ao39 t268.length co39, .slice Ao40 t271.length co40, .int .i64 t274, .int .i64 t275, .slice Ao41 t276.length co41, .slice Ao42 t279.length co42, .slice Ao43 t282.length co43, .slice Ao44 t285.length co44]] (by rfl) rfl rfl (by (try simp only [List.map_toArray, List.map_cons, List.map_nil]); first | done | rfl | (simp only [List.length_drop, List.length_take]; rfl)) ?_
      with_reducible refine (spec_BlockSame.calls k t242 t243 t244 _ _ t245 _ _ t248 t251 t252 _ _ t253 _ _ t256 _ _ t259 _ _ t262 t265 t266 t267 _ _ t268 _ _ t271 t274 t275 _ _ t276 _ _ t279 _ _ t282 _ _ t285 t288 _ ?side1 ?side2 ?side3 ?side4 ?side5 ?side6 ?side7 ?side8 ?side9 ?side10 ?side11 ?side12 ?side13 ?side14 ?side15 ?side16 ?side17 ?side18 ?side19 ?side20 ?side21 ?side22 ?side23 ?side24 A19.out).mono ?_
      (case side1 => repeat (first | exact (Kd.R_reads' HO247.out).2.2 | (with_reducible refine Kd.C_alloc ?_ _) | (with_reducible refine Kd.C_drewN ?_ _) | (with_reducible refine Kd.C_drew ?_)))
      (case side2 => exact (Kd.R_reads' HO247.out).2.1)
      (case side3 => repeat (first | exact (Kd.R_reads' HO250.out).2.2 | (with_reducible refine Kd.C_alloc ?_ _) | (with_reducible refine Kd.C_drewN ?_ _) | (with_reducible refine Kd.C_drew ?_)))
      (case side4 => exact (Kd.R_reads' HO250.out).2.1)
      (case side5 => repeat (first | exact (Kd.R_reads' HO255.out).2.2 | (with_reducible refine Kd.C_alloc ?_ _) | (with_reducible refine Kd.C_drewN ?_ _) | (with_reducible refine Kd.C_drew ?_)))
      (case side6 => exact (Kd.R_reads' HO255.out).2.1)
      (case side7 => repeat (first | exact (Kd.R_reads' HO258.out).2.2 | (with_reducible refine Kd.C_alloc ?_ _) | (with_reducible refine Kd.C_drewN ?_ _) | (with_reducible refine Kd.C_drew ?_)))
      (case side8 => exact (Kd.R_reads' HO258.out).2.1)
      (case side9 => repeat (first | exact (Kd.S_reads' HO261.out).2.2 | (with_reducible refine Kd.C_alloc ?_ _) | (with_reducible refine Kd.C_drewN ?_ _) | (with_reducible refine Kd.C_drew ?_)))
      (case side10 => exact (Kd.S_reads' HO261.out).2.1)
      (case side11 => repeat (first | exact (Kd.S_reads' HO264.out).2.2 | (with_reducible refine Kd.C_alloc ?_ _) | (with_reducible refine Kd.C_drewN ?_ _) | (with_reducible refine Kd.C_drew ?_)))
      (case side12 => exact (Kd.S_reads' HO264.out).2.1)
      (case side13 => repeat (first | exact (Kd.R_reads' HO270.out).2.2 | (with_reducible refine Kd.C_alloc ?_ _) | (with_reducible refine Kd.C_drewN ?_ _) | (with_reducible refine Kd.C_drew ?_)))
      (case side14 => exact (Kd.R_reads' HO270.out).2.1)
      (case side15 => repeat (first | exact (Kd.R_reads' HO273.out).2.2 | (with_reducible refine Kd.C_alloc ?_ _) | (with_reducible refine Kd.C_drewN ?_ _) | (with_reducible refine Kd.C_drew ?_)))
      (case side16 => exact (Kd.R_reads' HO273.out).2.1)
      (case side17 => repeat (first | exact (Kd.R_reads' HO278.out).2.2 | (with_reducible refine Kd.C_alloc ?_ _) | (with_reducible refine Kd.C_drewN ?_ _) | (with_reducible refine Kd.C_drew ?_)))
      (case side18 => exact (Kd.R_reads' HO278.out).2.1)
      (case side19 => repeat (first | exact (Kd.R_reads' HO281.out).2.2 | (with_reducible refine Kd.C_alloc ?_ _) | (with_reducible refine Kd.C_drewN ?_ _) | (with_reducible refine Kd.C_drew ?_)))
      (case side20 => exact (Kd.R_reads' HO281.out).2.1)
      (case side21 => repeat (first | exact (Kd.S_reads' HO284.out).2.2 | (with_reducible refine Kd.C_alloc ?_ _) | (with_reducible refine Kd.C_drewN ?_ _) | (with_reducible refine Kd.C_drew ?_)))
      (case side22 => exact (Kd.S_reads' HO284.out).2.1)
      (case side23 => repeat (first | exact (Kd.S_reads' HO287.out).2.2 | (with_reducible refine Kd.C_alloc ?_ _) | (with_reducible refine Kd.C_drewN ?_ _) | (with_reducible refine Kd.C_drew ?_)))
      (case side24 => exact (Kd.S_reads' HO287.out).2.1)
      rintro e w45 ⟨rfl, hb⟩
      refine ⟨_, rfl, ?_⟩
      have n0_ := Aside0.mk (Kd.R_below (Kd.R_mv HO247) hb)
      have n1_ := Aside0.mk (Kd.R_below (Kd.R_mv HO250) hb)
      have n2_ := Aside0.mk (Kd.R_below (Kd.R_mv HO255) hb)
      have n3_ := Aside0.mk (Kd.R_below (Kd.R_mv HO258) hb)
      have n4_ := Aside0.mk (Kd.S_below (Kd.S_mv HO261) hb)
      have n5_ := Aside0.mk (Kd.S_below (Kd.S_mv HO264) hb)
      have n6_ := Aside0.mk (Kd.R_below (Kd.R_mv HO270) hb)
      have n7_ := Aside0.mk (Kd.R_below (Kd.R_mv HO273) hb)
      have n8_ := Aside0.mk (Kd.R_below (Kd.R_mv HO278) hb)
      have n9_ := Aside0.mk (Kd.R_below (Kd.R_mv HO281) hb)
      have n10_ := Aside0.mk (Kd.S_below (Kd.S_mv HO284) hb)
      have n11_ := Aside0.mk (Kd.S_below (Kd.S_mv HO287) hb)
      have n12_ := Aside0.mk (blk_below (g := gb238) (o := .cells #[.int .i64 a0_0, .int .i64 a0_1, .int .i64 a0_2, .slice A0_3 l0_3.length c0_3, .slice A0_4 l0_4.length c0_4, .int .i64 a0_5, .int .i64 a0_6, .slice A0_7 l0_7.length c0_7, .slice A0_8 l0_8.length c0_8, .slice A0_9 l0_9.length c0_9, .slice A0_10 l0_10.length c0_10] 64 (0, 0)) (blk_mv BK238) hb)
      have n13_ := Aside0.mk (blk_below (g := gb239) (o := .cells #[.int .i64 a1_0, .int .i64 a1_1, .int .i64 a1_2, .slice A1_3 l1_3.length c1_3, .slice A1_4 l1_4.length c1_4, .int .i64 a1_5, .int .i64 a1_6, .slice A1_7 l1_7.length c1_7, .slice A1_8 l1_8.length c1_8, .slice A1_9 l1_9.length c1_9, .slice A1_10 l1_10.length c1_10] 64 (0, 0)) (blk_mv BK239) hb)
      have n14_ := Aside0.mk (below_step (by repeat (first | (with_reducible first | exact HB.out | apply below_alloc | apply pw_below_drewN | apply below_drew1 | refine below_set ?_ GE238.out | refine below_set ?_ GE239.out) | exact HB.out)) hb)
      clear HO247
      clear HO250
      clear HO255
      clear HO258
      clear HO261
      clear HO264
      clear HO270
      clear HO273
      clear HO278
      clear HO281
      clear HO284
      clear HO287
      clear BK238
      clear BK239
      clear HB
      have HO247 := n0_
      have HO250 := n1_
      have HO255 := n2_
      have HO258 := n3_
      have HO261 := n4_
      have HO264 := n5_
      have HO270 := n6_
      have HO273 := n7_
      have HO278 := n8_
      have HO281 := n9_
      have HO284 := n10_
      have HO287 := n11_
      have BK238 := n12_
      have BK239 := n13_
      have HB := n14_
      clear n0_ n1_ n2_ n3_ n4_ n5_ n6_ n7_ n8_ n9_ n10_ n11_ n12_ n13_ n14_
      (try clear hb)
      (try clear hb2)
      (try clear hk)
      (try clear hi)
      refine hK.out _ _ ⟨(blk_cell BK238.out 0).trans rfl, (blk_cell BK238.out 1).trans rfl, (blk_cell BK238.out 2).trans rfl, (blk_cell BK238.out 3).trans rfl, (blk_cell BK238.out 4).trans rfl, (blk_cell BK238.out 5).trans rfl, (blk_cell BK238.out 6).trans rfl, (blk_cell BK238.out 7).trans rfl, (blk_cell BK238.out 8).trans rfl, (blk_cell BK238.out 9).trans rfl, (blk_cell BK238.out 10).trans rfl, (blk_cell BK239.out 0).trans rfl, (blk_cell BK239.out 1).trans rfl, (blk_cell BK239.out 2).trans rfl, (blk_cell BK239.out 3).trans rfl, (blk_cell BK239.out 4).trans rfl, (blk_cell BK239.out 5).trans rfl, (blk_cell BK239.out 6).trans rfl, (blk_cell BK239.out 7).trans rfl, (blk_cell BK239.out 8).trans rfl, (blk_cell BK239.out 9).trans rfl, (blk_cell BK239.out 10).trans rfl⟩ (fun hHeld => ?_)
      clear hK K
      refine norm_ (a' := ?_) ?_ ?_
      rotate_left
      ·show Act.put _ (some 24) _ = _
       simp only [Act.put, List.setIfInBounds_toArray, List.set_cons_zero, List.set_cons_succ, i64_w, i32_w]
       rfl
      refine pure_ (i := 5) (N := some 6) (v := ?_) (a' := ?_) #[true, true, true, true, true, true] rfl rfl (by kernel_rfl) (fun _ _ _ h => h) (Or.inl ⟨by rfl, ?_⟩) ?_ ?_
      rotate_left
      ·intro w'
       go_simp
       with_reducible rfl
      rotate_left
      ·simp only [Act.put, List.setIfInBounds_toArray, List.set_cons_zero, List.set_cons_succ, i64_w, i32_w]
       rfl
      refine done_ (by kernel_rfl) ?_
      have hnb46 := NB238_239.out
      have hnc46 := NB239_238.out
      have hcz47_0 : w45.cell? ⟨gb238, 0, none⟩ = some (.int .i64 a0_0) := (blk_cell BK238.out 0).trans rfl
      have hcz47_1 : w45.cell? ⟨gb238, 1, none⟩ = some (.int .i64 a0_1) := (blk_cell BK238.out 1).trans rfl
      have hcz47_2 : w45.cell? ⟨gb238, 2, none⟩ = some (.int .i64 a0_2) := (blk_cell BK238.out 2).trans rfl
      have hcz47_3 : w45.cell? ⟨gb238, 3, none⟩ = some (.slice A0_3 l0_3.length c0_3) := (blk_cell BK238.out 3).trans rfl
      have hcz47_4 : w45.cell? ⟨gb238, 4, none⟩ = some (.slice A0_4 l0_4.length c0_4) := (blk_cell BK238.out 4).trans rfl
      have hcz47_5 : w45.cell? ⟨gb238, 5, none⟩ = some (.int .i64 a0_5) := (blk_cell BK238.out 5).trans rfl
      have hcz47_6 : w45.cell? ⟨gb238, 6, none⟩ = some (.int .i64 a0_6) := (blk_cell BK238.out 6).trans rfl
      have hcz47_7 : w45.cell? ⟨gb238, 7, none⟩ = some (.slice A0_7 l0_7.length c0_7) := (blk_cell BK238.out 7).trans rfl
      have hcz47_8 : w45.cell? ⟨gb238, 8, none⟩ = some (.slice A0_8 l0_8.length c0_8) := (blk_cell BK238.out 8).trans rfl
      have hcz47_9 : w45.cell? ⟨gb238, 9, none⟩ = some (.slice A0_9 l0_9.length c0_9) := (blk_cell BK238.out 9).trans rfl
      have hcz47_10 : w45.cell? ⟨gb238, 10, none⟩ = some (.slice A0_10 l0_10.length c0_10) := (blk_cell BK238.out 10).trans rfl
      have hfz47_0 := blk_frozen BK238.out 0
      have hfz47_1 := blk_frozen BK238.out 1
      have hfz47_2 := blk_frozen BK238.out 2
      have hfz47_3 := blk_frozen BK238.out 3
      have hfz47_4 := blk_frozen BK238.out 4
      have hfz47_5 := blk_frozen BK238.out 5
      have hfz47_6 := blk_frozen BK238.out 6
      have hfz47_7 := blk_frozen BK238.out 7
      have hfz47_8 := blk_frozen BK238.out 8
      have hfz47_9 := blk_frozen BK238.out 9
      have hfz47_10 := blk_frozen BK238.out 10
      try go_wp2_with (first | ((with_reducible refine gate_callee (f := 38) rfl ?_); refine goesL_ (some 26) rfl rfl Try.func38 (by kernel_rfl) rfl #[.agg #[.int .i64 a0_0, .int .i64 a0_1, .int .i64 a0_2, .slice A0_3 l0_3.length c0_3, .slice A0_4 l0_4.length c0_4, .int .i64 a0_5, .int .i64 a0_6, .slice A0_7 l0_7.length c0_7, .slice A0_8 l0_8.length c0_8, .slice A0_9 l0_9.length c0_9, .slice A0_10 l0_10.length c0_10]] rfl (by (try simp only [List.map_toArray, List.map_cons, List.map_nil]); first | done | rfl | (simp only [List.length_drop, List.length_take]; rfl)) ?_; (with_reducible refine (laws_toBlock.calls k a0_0 a0_1 a0_2 _ _ l0_3 _ _ l0_4 a0_5 a0_6 _ _ l0_7 _ _ l0_8 _ _ l0_9 _ _ l0_10 t289 t290 t291 t292 t295 t298 t299 t300 t303 t306 t309 _ ?side1 ?side2 ?side3 ?side4 ?side5 ?side6 ?side7 ?side8 ?side9 ?side10 ?side11 ?side12 A20.out).mono ?_); (case side1 => repeat (first | exact (Kd.C_below HR0_3.out HB.out) | (with_reducible refine Kd.C_alloc ?_ _) | (with_reducible refine Kd.C_drewN ?_ _) | (with_reducible refine Kd.C_drew ?_))); (case side2 => exact HC0_3.out); (case side3 => repeat (first | exact (Kd.C_below HR0_4.out HB.out) | (with_reducible refine Kd.C_alloc ?_ _) | (with_reducible refine Kd.C_drewN ?_ _) | (with_reducible refine Kd.C_drew ?_))); (case side4 => exact HC0_4.out); (case side5 => repeat (first | exact (Kd.C_below HR0_7.out HB.out) | (with_reducible refine Kd.C_alloc ?_ _) | (with_reducible refine Kd.C_drewN ?_ _) | (with_reducible refine Kd.C_drew ?_))); (case side6 => exact HC0_7.out); (case side7 => repeat (first | exact (Kd.C_below HR0_8.out HB.out) | (with_reducible refine Kd.C_alloc ?_ _) | (with_reducible refine Kd.C_drewN ?_ _) | (with_reducible refine Kd.C_drew ?_))); (case side8 => exact HC0_8.out); (case side9 => repeat (first | exact (Kd.C_below HR0_9.out HB.out) | (with_reducible refine Kd.C_alloc ?_ _) | (with_reducible refine Kd.C_drewN ?_ _) | (with_reducible refine Kd.C_drew ?_))); (case side10 => exact HC0_9.out); (case side11 => repeat (first | exact (Kd.C_below HR0_10.out HB.out) | (with_reducible refine Kd.C_alloc ?_ _) | (with_reducible refine Kd.C_drewN ?_ _) | (with_reducible refine Kd.C_drew ?_))); (case side12 => exact HC0_10.out); rintro e w48 ⟨v293, v296, v301, v304, v307, v310, rfl, ho0, ho1, ho2, ho3, ho4, ho5, hb⟩; refine ⟨_, rfl, ?_⟩; have n0_ := Aside0.mk (Kd.R_mono (Kd.R_told (Kd.R_told (Kd.R_told (Kd.R_told (Kd.R_old (Kd.R_mv HO247) hb) (Kd.R_base ho0)) (Kd.R_base ho1)) (Kd.R_base ho2)) (Kd.R_base ho3)) (fun _ h_ => h_.1)); have n1_ := Aside0.mk (Kd.R_mono (Kd.R_told (Kd.R_told (Kd.R_told (Kd.R_told (Kd.R_old (Kd.R_mv HO250) hb) (Kd.R_base ho0)) (Kd.R_base ho1)) (Kd.R_base ho2)) (Kd.R_base ho3)) (fun _ h_ => h_.1)); have n2_ := Aside0.mk (Kd.R_mono (Kd.R_told (Kd.R_told (Kd.R_told (Kd.R_told (Kd.R_old (Kd.R_mv HO255) hb) (Kd.R_base ho0)) (Kd.R_base ho1)) (Kd.R_base ho2)) (Kd.R_base ho3)) (fun _ h_ => h_.1)); have n3_ := Aside0.mk (Kd.R_mono (Kd.R_told (Kd.R_told (Kd.R_told (Kd.R_told (Kd.R_old (Kd.R_mv HO258) hb) (Kd.R_base ho0)) (Kd.R_base ho1)) (Kd.R_base ho2)) (Kd.R_base ho3)) (fun _ h_ => h_.1)); have n4_ := Aside0.mk (Kd.S_mono (Kd.S_told (Kd.S_told (Kd.S_told (Kd.S_told (Kd.S_told (Kd.S_told (Kd.S_old (Kd.S_mv HO261) hb) (Kd.R_base ho0)) (Kd.R_base ho1)) (Kd.R_base ho2)) (Kd.R_base ho3)) (Kd.S_base ho4)) (Kd.S_base ho5)) (fun _ h_ => h_.1)); have n5_ := Aside0.mk (Kd.S_mono (Kd.S_told (Kd.S_told (Kd.S_told (Kd.S_told (Kd.S_told (Kd.S_told (Kd.S_old (Kd.S_mv HO264) hb) (Kd.R_base ho0)) (Kd.R_base ho1)) (Kd.R_base ho2)) (Kd.R_base ho3)) (Kd.S_base ho4)) (Kd.S_base ho5)) (fun _ h_ => h_.1)); have n6_ := Aside0.mk (Kd.R_mono (Kd.R_told (Kd.R_told (Kd.R_told (Kd.R_told (Kd.R_old (Kd.R_mv HO270) hb) (Kd.R_base ho0)) (Kd.R_base ho1)) (Kd.R_base ho2)) (Kd.R_base ho3)) (fun _ h_ => h_.1)); have n7_ := Aside0.mk (Kd.R_mono (Kd.R_told (Kd.R_told (Kd.R_told (Kd.R_told (Kd.R_old (Kd.R_mv HO273) hb) (Kd.R_base ho0)) (Kd.R_base ho1)) (Kd.R_base ho2)) (Kd.R_base ho3)) (fun _ h_ => h_.1)); have n8_ := Aside0.mk (Kd.R_mono (Kd.R_told (Kd.R_told (Kd.R_told (Kd.R_told (Kd.R_old (Kd.R_mv HO278) hb) (Kd.R_base ho0)) (Kd.R_base ho1)) (Kd.R_base ho2)) (Kd.R_base ho3)) (fun _ h_ => h_.1)); have n9_ := Aside0.mk (Kd.R_mono (Kd.R_told (Kd.R_told (Kd.R_told (Kd.R_told (Kd.R_old (Kd.R_mv HO281) hb) (Kd.R_base ho0)) (Kd.R_base ho1)) (Kd.R_base ho2)) (Kd.R_base ho3)) (fun _ h_ => h_.1)); have n10_ := Aside0.mk (Kd.S_mono (Kd.S_told (Kd.S_told (Kd.S_told (Kd.S_told (Kd.S_told (Kd.S_told (Kd.S_old (Kd.S_mv HO284) hb) (Kd.R_base ho0)) (Kd.R_base ho1)) (Kd.R_base ho2)) (Kd.R_base ho3)) (Kd.S_base ho4)) (Kd.S_base ho5)) (fun _ h_ => h_.1)); have n11_ := Aside0.mk (Kd.S_mono (Kd.S_told (Kd.S_told (Kd.S_told (Kd.S_told (Kd.S_told (Kd.S_told (Kd.S_old (Kd.S_mv HO287) hb) (Kd.R_base ho0)) (Kd.R_base ho1)) (Kd.R_base ho2)) (Kd.R_base ho3)) (Kd.S_base ho4)) (Kd.S_base ho5)) (fun _ h_ => h_.1)); have n12_ := Aside0.mk (Kd.R_lower (Kd.R_new' (Kd.R_new' (Kd.R_new' (Kd.R_new' (Kd.R_new' (Kd.R_new' (Kd.R_new' (Kd.R_new' ho0 (Kd.R_lt (Kd.R_mv HO247))) (Kd.R_lt (Kd.R_mv HO250))) (Kd.R_lt (Kd.R_mv HO255))) (Kd.R_lt (Kd.R_mv HO258))) (Kd.R_lt (Kd.R_mv HO270))) (Kd.R_lt (Kd.R_mv HO273))) (Kd.R_lt (Kd.R_mv HO278))) (Kd.R_lt (Kd.R_mv HO281))) (below_size (by repeat (first | (with_reducible first | exact HB.out | apply below_alloc | apply pw_below_drewN | apply below_drew1 | refine below_set ?_ GE238.out | refine below_set ?_ GE239.out) | exact HB.out)))); have n13_ := Aside0.mk (Kd.R_lower (Kd.R_new' (Kd.R_new' (Kd.R_new' (Kd.R_new' (Kd.R_new' (Kd.R_new' (Kd.R_new' (Kd.R_new' ho1 (Kd.R_lt (Kd.R_mv HO247))) (Kd.R_lt (Kd.R_mv HO250))) (Kd.R_lt (Kd.R_mv HO255))) (Kd.R_lt (Kd.R_mv HO258))) (Kd.R_lt (Kd.R_mv HO270))) (Kd.R_lt (Kd.R_mv HO273))) (Kd.R_lt (Kd.R_mv HO278))) (Kd.R_lt (Kd.R_mv HO281))) (below_size (by repeat (first | (with_reducible first | exact HB.out | apply below_alloc | apply pw_below_drewN | apply below_drew1 | refine below_set ?_ GE238.out | refine below_set ?_ GE239.out) | exact HB.out)))); have n14_ := Aside0.mk (Kd.R_lower (Kd.R_new' (Kd.R_new' (Kd.R_new' (Kd.R_new' (Kd.R_new' (Kd.R_new' (Kd.R_new' (Kd.R_new' ho2 (Kd.R_lt (Kd.R_mv HO247))) (Kd.R_lt (Kd.R_mv HO250))) (Kd.R_lt (Kd.R_mv HO255))) (Kd.R_lt (Kd.R_mv HO258))) (Kd.R_lt (Kd.R_mv HO270))) (Kd.R_lt (Kd.R_mv HO273))) (Kd.R_lt (Kd.R_mv HO278))) (Kd.R_lt (Kd.R_mv HO281))) (below_size (by repeat (first | (with_reducible first | exact HB.out | apply below_alloc | apply pw_below_drewN | apply below_drew1 | refine below_set ?_ GE238.out | refine below_set ?_ GE239.out) | exact HB.out)))); have n15_ := Aside0.mk (Kd.R_lower (Kd.R_new' (Kd.R_new' (Kd.R_new' (Kd.R_new' (Kd.R_new' (Kd.R_new' (Kd.R_new' (Kd.R_new' ho3 (Kd.R_lt (Kd.R_mv HO247))) (Kd.R_lt (Kd.R_mv HO250))) (Kd.R_lt (Kd.R_mv HO255))) (Kd.R_lt (Kd.R_mv HO258))) (Kd.R_lt (Kd.R_mv HO270))) (Kd.R_lt (Kd.R_mv HO273))) (Kd.R_lt (Kd.R_mv HO278))) (Kd.R_lt (Kd.R_mv HO281))) (below_size (by repeat (first | (with_reducible first | exact HB.out | apply below_alloc | apply pw_below_drewN | apply below_drew1 | refine below_set ?_ GE238.out | refine below_set ?_ GE239.out) | exact HB.out)))); have n16_ := Aside0.mk (Kd.S_lower (Kd.S_new' (Kd.S_new' (Kd.S_new' (Kd.S_new' (Kd.S_new' (Kd.S_new' (Kd.S_new' (Kd.S_new' (Kd.S_new' (Kd.S_new' (Kd.S_new' (Kd.S_new' ho4 (Kd.R_lt (Kd.R_mv HO247))) (Kd.R_lt (Kd.R_mv HO250))) (Kd.R_lt (Kd.R_mv HO255))) (Kd.R_lt (Kd.R_mv HO258))) (Kd.S_lt (Kd.S_mv HO261))) (Kd.S_lt (Kd.S_mv HO264))) (Kd.R_lt (Kd.R_mv HO270))) (Kd.R_lt (Kd.R_mv HO273))) (Kd.R_lt (Kd.R_mv HO278))) (Kd.R_lt (Kd.R_mv HO281))) (Kd.S_lt (Kd.S_mv HO284))) (Kd.S_lt (Kd.S_mv HO287))) (below_size (by repeat (first | (with_reducible first | exact HB.out | apply below_alloc | apply pw_below_drewN | apply below_drew1 | refine below_set ?_ GE238.out | refine below_set ?_ GE239.out) | exact HB.out)))); have n17_ := Aside0.mk (Kd.S_lower (Kd.S_new' (Kd.S_new' (Kd.S_new' (Kd.S_new' (Kd.S_new' (Kd.S_new' (Kd.S_new' (Kd.S_new' (Kd.S_new' (Kd.S_new' (Kd.S_new' (Kd.S_new' ho5 (Kd.R_lt (Kd.R_mv HO247))) (Kd.R_lt (Kd.R_mv HO250))) (Kd.R_lt (Kd.R_mv HO255))) (Kd.R_lt (Kd.R_mv HO258))) (Kd.S_lt (Kd.S_mv HO261))) (Kd.S_lt (Kd.S_mv HO264))) (Kd.R_lt (Kd.R_mv HO270))) (Kd.R_lt (Kd.R_mv HO273))) (Kd.R_lt (Kd.R_mv HO278))) (Kd.R_lt (Kd.R_mv HO281))) (Kd.S_lt (Kd.S_mv HO284))) (Kd.S_lt (Kd.S_mv HO287))) (below_size (by repeat (first | (with_reducible first | exact HB.out | apply below_alloc | apply pw_below_drewN | apply below_drew1 | refine below_set ?_ GE238.out | refine below_set ?_ GE239.out) | exact HB.out)))); have n18_ := Aside0.mk (blk_below (g := gb238) (o := .cells #[.int .i64 a0_0, .int .i64 a0_1, .int .i64 a0_2, .slice A0_3 l0_3.length c0_3, .slice A0_4 l0_4.length c0_4, .int .i64 a0_5, .int .i64 a0_6, .slice A0_7 l0_7.length c0_7, .slice A0_8 l0_8.length c0_8, .slice A0_9 l0_9.length c0_9, .slice A0_10 l0_10.length c0_10] 64 (0, 0)) (blk_mv BK238) hb); have n19_ := Aside0.mk (blk_below (g := gb239) (o := .cells #[.int .i64 a1_0, .int .i64 a1_1, .int .i64 a1_2, .slice A1_3 l1_3.length c1_3, .slice A1_4 l1_4.length c1_4, .int .i64 a1_5, .int .i64 a1_6, .slice A1_7 l1_7.length c1_7, .slice A1_8 l1_8.length c1_8, .slice A1_9 l1_9.length c1_9, .slice A1_10 l1_10.length c1_10] 64 (0, 0)) (blk_mv BK239) hb); have n20_ := Aside0.mk (below_step (by repeat (first | (with_reducible first | exact HB.out | apply below_alloc | apply pw_below_drewN | apply below_drew1 | refine below_set ?_ GE238.out | refine below_set ?_ GE239.out) | exact HB.out)) hb); clear HO247; clear HO250; clear HO255; clear HO258; clear HO261; clear HO264; clear HO270; clear HO273; clear HO278; clear HO281; clear HO284; clear HO287; clear BK238; clear BK239; clear HB; have HO247 := n0_; have HO250 := n1_; have HO255 := n2_; have HO258 := n3_; have HO261 := n4_; have HO264 := n5_; have HO270 := n6_; have HO273 := n7_; have HO278 := n8_; have HO281 := n9_; have HO284 := n10_; have HO287 := n11_; have HO294 := n12_; have HO297 := n13_; have HO302 := n14_; have HO305 := n15_; have HO308 := n16_; have HO311 := n17_; have BK238 := n18_; have BK239 := n19_; have HB := n20_; clear n0_ n1_ n2_ n3_ n4_ n5_ n6_ n7_ n8_ n9_ n10_ n11_ n12_ n13_ n14_ n15_ n16_ n17_ n18_ n19_ n20_; (try clear hb); (try clear hb2); (try clear hk); (try clear hi); (try clear ho0); (try clear ho1); (try clear ho2); (try clear ho3); (try clear ho4); (try clear ho5)) | ((with_reducible refine gate_dst (N := 7) rfl ?_); refine box_event ?hg (N := 7) ?hd (cs := #[.int .i64 0, .int .i64 0, .int .i64 0, .slice none 0 0, .slice none 0 0, .int .i64 0, .int .i64 0, .slice none 0 0, .slice none 0 0, .slice none 0 0, .slice none 0 0]) (t := 68) ?hr ?_; (case hd => rfl); (case hg => rfl); (case hr => first | (go_simp; done) | (go_simp; rfl)); intro gb312 hg w49 hbox hb; have n0_ := Aside0.mk (Kd.R_below (Kd.R_mv HO247) hb); have n1_ := Aside0.mk (Kd.R_below (Kd.R_mv HO250) hb); have n2_ := Aside0.mk (Kd.R_below (Kd.R_mv HO255) hb); have n3_ := Aside0.mk (Kd.R_below (Kd.R_mv HO258) hb); have n4_ := Aside0.mk (Kd.S_below (Kd.S_mv HO261) hb); have n5_ := Aside0.mk (Kd.S_below (Kd.S_mv HO264) hb); have n6_ := Aside0.mk (Kd.R_below (Kd.R_mv HO270) hb); have n7_ := Aside0.mk (Kd.R_below (Kd.R_mv HO273) hb); have n8_ := Aside0.mk (Kd.R_below (Kd.R_mv HO278) hb); have n9_ := Aside0.mk (Kd.R_below (Kd.R_mv HO281) hb); have n10_ := Aside0.mk (Kd.S_below (Kd.S_mv HO284) hb); have n11_ := Aside0.mk (Kd.S_below (Kd.S_mv HO287) hb); have n12_ := Aside0.mk (Kd.R_below (Kd.R_mv HO294) hb); have n13_ := Aside0.mk (Kd.R_below (Kd.R_mv HO297) hb); have n14_ := Aside0.mk (Kd.R_below (Kd.R_mv HO302) hb); have n15_ := Aside0.mk (Kd.R_below (Kd.R_mv HO305) hb); have n16_ := Aside0.mk (Kd.S_below (Kd.S_mv HO308) hb); have n17_ := Aside0.mk (Kd.S_below (Kd.S_mv HO311) hb); have n18_ := Aside0.mk (blk_below (g := gb238) (o := .cells #[.int .i64 a0_0, .int .i64 a0_1, .int .i64 a0_2, .slice A0_3 l0_3.length c0_3, .slice A0_4 l0_4.length c0_4, .int .i64 a0_5, .int .i64 a0_6, .slice A0_7 l0_7.length c0_7, .slice A0_8 l0_8.length c0_8, .slice A0_9 l0_9.length c0_9, .slice A0_10 l0_10.length c0_10] 64 (0, 0)) (blk_mv BK238) hb); have n19_ := Aside0.mk (blk_below (g := gb239) (o := .cells #[.int .i64 a1_0, .int .i64 a1_1, .int .i64 a1_2, .slice A1_3 l1_3.length c1_3, .slice A1_4 l1_4.length c1_4, .int .i64 a1_5, .int .i64 a1_6, .slice A1_7 l1_7.length c1_7, .slice A1_8 l1_8.length c1_8, .slice A1_9 l1_9.length c1_9, .slice A1_10 l1_10.length c1_10] 64 (0, 0)) (blk_mv BK239) hb); have n20_ := Aside0.mk (below_step (by repeat (first | (with_reducible first | exact HB.out | apply below_alloc | apply pw_below_drewN | apply below_drew1 | refine below_set ?_ GE238.out | refine below_set ?_ GE239.out) | exact HB.out)) hb); have n21_ := Aside0.mk (hbox); have n22_ := Aside0.mk ((by rw [hg]; exact (below_size (by repeat (first | (with_reducible first | exact HB.out | apply below_alloc | apply pw_below_drewN | apply below_drew1 | refine below_set ?_ GE238.out | refine below_set ?_ GE239.out) | exact HB.out))) : w.heap.size ≤ gb312)); have n23_ := Aside0.mk ((by rw [hg]; exact (below_size (by repeat (first | (with_reducible first | exact HB.out | apply below_alloc | apply pw_below_drewN | apply below_drew1 | refine below_set ?_ GE238.out | refine below_set ?_ GE239.out) | exact HB.out))) : w.heap.size ≤ gb312)); have n24_ := Aside0.mk ((by rw [hg]; exact Nat.ne_of_lt (blk_lt (g := gb238) (o := .cells #[.int .i64 a0_0, .int .i64 a0_1, .int .i64 a0_2, .slice A0_3 l0_3.length c0_3, .slice A0_4 l0_4.length c0_4, .int .i64 a0_5, .int .i64 a0_6, .slice A0_7 l0_7.length c0_7, .slice A0_8 l0_8.length c0_8, .slice A0_9 l0_9.length c0_9, .slice A0_10 l0_10.length c0_10] 64 (0, 0)) (blk_mv BK238)) : gb238 ≠ gb312)); have n25_ := Aside0.mk ((by rw [hg]; exact Nat.ne_of_gt (blk_lt (g := gb238) (o := .cells #[.int .i64 a0_0, .int .i64 a0_1, .int .i64 a0_2, .slice A0_3 l0_3.length c0_3, .slice A0_4 l0_4.length c0_4, .int .i64 a0_5, .int .i64 a0_6, .slice A0_7 l0_7.length c0_7, .slice A0_8 l0_8.length c0_8, .slice A0_9 l0_9.length c0_9, .slice A0_10 l0_10.length c0_10] 64 (0, 0)) (blk_mv BK238)) : gb312 ≠ gb238)); have n26_ := Aside0.mk ((by rw [hg]; exact Nat.ne_of_lt (blk_lt (g := gb239) (o := .cells #[.int .i64 a1_0, .int .i64 a1_1, .int .i64 a1_2, .slice A1_3 l1_3.length c1_3, .slice A1_4 l1_4.length c1_4, .int .i64 a1_5, .int .i64 a1_6, .slice A1_7 l1_7.length c1_7, .slice A1_8 l1_8.length c1_8, .slice A1_9 l1_9.length c1_9, .slice A1_10 l1_10.length c1_10] 64 (0, 0)) (blk_mv BK239)) : gb239 ≠ gb312)); have n27_ := Aside0.mk ((by rw [hg]; exact Nat.ne_of_gt (blk_lt (g := gb239) (o := .cells #[.int .i64 a1_0, .int .i64 a1_1, .int .i64 a1_2, .slice A1_3 l1_3.length c1_3, .slice A1_4 l1_4.length c1_4, .int .i64 a1_5, .int .i64 a1_6, .slice A1_7 l1_7.length c1_7, .slice A1_8 l1_8.length c1_8, .slice A1_9 l1_9.length c1_9, .slice A1_10 l1_10.length c1_10] 64 (0, 0)) (blk_mv BK239)) : gb312 ≠ gb239)); clear HO247; clear HO250; clear HO255; clear HO258; clear HO261; clear HO264; clear HO270; clear HO273; clear HO278; clear HO281; clear HO284; clear HO287; clear HO294; clear HO297; clear HO302; clear HO305; clear HO308; clear HO311; clear BK238; clear BK239; clear HB; have HO247 := n0_; have HO250 := n1_; have HO255 := n2_; have HO258 := n3_; have HO261 := n4_; have HO264 := n5_; have HO270 := n6_; have HO273 := n7_; have HO278 := n8_; have HO281 := n9_; have HO284 := n10_; have HO287 := n11_; have HO294 := n12_; have HO297 := n13_; have HO302 := n14_; have HO305 := n15_; have HO308 := n16_; have HO311 := n17_; have BK238 := n18_; have BK239 := n19_; have HB := n20_; have BK312 := n21_; have GW312 := n22_; have GE312 := n23_; have NB238_312 := n24_; have NB312_238 := n25_; have NB239_312 := n26_; have NB312_239 := n27_; clear n0_ n1_ n2_ n3_ n4_ n5_ n6_ n7_ n8_ n9_ n10_ n11_ n12_ n13_ n14_ n15_ n16_ n17_ n18_ n19_ n20_ n21_ n22_ n23_ n24_ n25_ n26_ n27_; clear hb hbox hg; have hnb50 := NB312_238.out; have hnc50 := NB238_312.out; have hnb51 := NB312_239.out; have hnc51 := NB239_312.out; have hcz52_0 : w49.cell? ⟨gb312, 0, none⟩ = some (.int .i64 0) := (blk_cell BK312.out 0).trans rfl; have hcz52_1 : w49.cell? ⟨gb312, 1, none⟩ = some (.int .i64 0) := (blk_cell BK312.out 1).trans rfl; have hcz52_2 : w49.cell? ⟨gb312, 2, none⟩ = some (.int .i64 0) := (blk_cell BK312.out 2).trans rfl; have hcz52_3 : w49.cell? ⟨gb312, 3, none⟩ = some (.slice none 0 0) := (blk_cell BK312.out 3).trans rfl; have hcz52_4 : w49.cell? ⟨gb312, 4, none⟩ = some (.slice none 0 0) := (blk_cell BK312.out 4).trans rfl; have hcz52_5 : w49.cell? ⟨gb312, 5, none⟩ = some (.int .i64 0) := (blk_cell BK312.out 5).trans rfl; have hcz52_6 : w49.cell? ⟨gb312, 6, none⟩ = some (.int .i64 0) := (blk_cell BK312.out 6).trans rfl; have hcz52_7 : w49.cell? ⟨gb312, 7, none⟩ = some (.slice none 0 0) := (blk_cell BK312.out 7).trans rfl; have hcz52_8 : w49.cell? ⟨gb312, 8, none⟩ = some (.slice none 0 0) := (blk_cell BK312.out 8).trans rfl; have hcz52_9 : w49.cell? ⟨gb312, 9, none⟩ = some (.slice none 0 0) := (blk_cell BK312.out 9).trans rfl; have hcz52_10 : w49.cell? ⟨gb312, 10, none⟩ = some (.slice none 0 0) := (blk_cell BK312.out 10).trans rfl; have hfz52_0 := blk_frozen BK312.out 0; have hfz52_1 := blk_frozen BK312.out 1; have hfz52_2 := blk_frozen BK312.out 2; have hfz52_3 := blk_frozen BK312.out 3; have hfz52_4 := blk_frozen BK312.out 4; have hfz52_5 := blk_frozen BK312.out 5; have hfz52_6 := blk_frozen BK312.out 6; have hfz52_7 := blk_frozen BK312.out 7; have hfz52_8 := blk_frozen BK312.out 8; have hfz52_9 := blk_frozen BK312.out 9; have hfz52_10 := blk_frozen BK312.out 10; obtain ⟨Ao53, co53, eo53⟩ := Kd.R_slice HO294.out; subst eo53; obtain ⟨Ao54, co54, eo54⟩ := Kd.R_slice HO297.out; subst eo54; obtain ⟨Ao55, co55, eo55⟩ := Kd.R_slice HO302.out; subst eo55; obtain ⟨Ao56, co56, eo56⟩ := Kd.R_slice HO305.out; subst eo56; obtain ⟨Ao57, co57, eo57⟩ := Kd.S_slice HO308.out; subst eo57; obtain ⟨Ao58, co58, eo58⟩ := Kd.S_slice HO311.out; subst eo58; have hcz59_0 : w49.cell? ⟨gb239, 0, none⟩ = some (.int .i64 a1_0) := (blk_cell BK239.out 0).trans rfl; have hcz59_1 : w49.cell? ⟨gb239, 1, none⟩ = some (.int .i64 a1_1) := (blk_cell BK239.out 1).trans rfl; have hcz59_2 : w49.cell? ⟨gb239, 2, none⟩ = some (.int .i64 a1_2) := (blk_cell BK239.out 2).trans rfl; have hcz59_3 : w49.cell? ⟨gb239, 3, none⟩ = some (.slice A1_3 l1_3.length c1_3) := (blk_cell BK239.out 3).trans rfl; have hcz59_4 : w49.cell? ⟨gb239, 4, none⟩ = some (.slice A1_4 l1_4.length c1_4) := (blk_cell BK239.out 4).trans rfl; have hcz59_5 : w49.cell? ⟨gb239, 5, none⟩ = some (.int .i64 a1_5) := (blk_cell BK239.out 5).trans rfl; have hcz59_6 : w49.cell? ⟨gb239, 6, none⟩ = some (.int .i64 a1_6) := (blk_cell BK239.out 6).trans rfl; have hcz59_7 : w49.cell? ⟨gb239, 7, none⟩ = some (.slice A1_7 l1_7.length c1_7) := (blk_cell BK239.out 7).trans rfl; have hcz59_8 : w49.cell? ⟨gb239, 8, none⟩ = some (.slice A1_8 l1_8.length c1_8) := (blk_cell BK239.out 8).trans rfl; have hcz59_9 : w49.cell? ⟨gb239, 9, none⟩ = some (.slice A1_9 l1_9.length c1_9) := (blk_cell BK239.out 9).trans rfl; have hcz59_10 : w49.cell? ⟨gb239, 10, none⟩ = some (.slice A1_10 l1_10.length c1_10) := (blk_cell BK239.out 10).trans rfl; have hfz59_0 := blk_frozen BK239.out 0; have hfz59_1 := blk_frozen BK239.out 1; have hfz59_2 := blk_frozen BK239.out 2; have hfz59_3 := blk_frozen BK239.out 3; have hfz59_4 := blk_frozen BK239.out 4; have hfz59_5 := blk_frozen BK239.out 5; have hfz59_6 := blk_frozen BK239.out 6; have hfz59_7 := blk_frozen BK239.out 7; have hfz59_8 := blk_frozen BK239.out 8; have hfz59_9 := blk_frozen BK239.out 9; have hfz59_10 := blk_frozen BK239.out 10) | ((with_reducible refine gate_callee (f := 38) rfl ?_); refine goesL_ (some 28) rfl rfl Try.func38 (by kernel_rfl) rfl #[.agg #[.int .i64 a1_0, .int .i64 a1_1, .int .i64 a1_2, .slice A1_3 l1_3.length c1_3, .slice A1_4 l1_4.length c1_4, .int .i64 a1_5, .int .i64 a1_6, .slice A1_7 l1_7.length c1_7, .slice A1_8 l1_8.length c1_8, .slice A1_9 l1_9.length c1_9, .slice A1_10 l1_10.length c1_10]] rfl (by (try simp only [List.map_toArray, List.map_cons, List.map_nil]); first | done | rfl | (simp only [List.length_drop, List.length_take]; rfl)) ?_; (with_reducible refine (laws_toBlock.calls k a1_0 a1_1 a1_2 _ _ l1_3 _ _ l1_4 a1_5 a1_6 _ _ l1_7 _ _ l1_8 _ _ l1_9 _ _ l1_10 t313 t314 t315 t316 t319 t322 t323 t324 t327 t330 t333 _ ?side1 ?side2 ?side3 ?side4 ?side5 ?side6 ?side7 ?side8 ?side9 ?side10 ?side11 ?side12 A21.out).mono ?_); (case side1 => exact Kd.C_below HR1_3.out (by repeat (first | (with_reducible first | exact HB.out | apply below_alloc | apply pw_below_drewN | apply below_drew1 | refine below_set ?_ GE238.out | refine below_set ?_ GE239.out | refine below_set ?_ GE312.out) | exact HB.out))); (case side2 => exact HC1_3.out); (case side3 => exact Kd.C_below HR1_4.out (by repeat (first | (with_reducible first | exact HB.out | apply below_alloc | apply pw_below_drewN | apply below_drew1 | refine below_set ?_ GE238.out | refine below_set ?_ GE239.out | refine below_set ?_ GE312.out) | exact HB.out))); (case side4 => exact HC1_4.out); (case side5 => exact Kd.C_below HR1_7.out (by repeat (first | (with_reducible first | exact HB.out | apply below_alloc | apply pw_below_drewN | apply below_drew1 | refine below_set ?_ GE238.out | refine below_set ?_ GE239.out | refine below_set ?_ GE312.out) | exact HB.out))); (case side6 => exact HC1_7.out); (case side7 => exact Kd.C_below HR1_8.out (by repeat (first | (with_reducible first | exact HB.out | apply below_alloc | apply pw_below_drewN | apply below_drew1 | refine below_set ?_ GE238.out | refine below_set ?_ GE239.out | refine below_set ?_ GE312.out) | exact HB.out))); (case side8 => exact HC1_8.out); (case side9 => exact Kd.C_below HR1_9.out (by repeat (first | (with_reducible first | exact HB.out | apply below_alloc | apply pw_below_drewN | apply below_drew1 | refine below_set ?_ GE238.out | refine below_set ?_ GE239.out | refine below_set ?_ GE312.out) | exact HB.out))); (case side10 => exact HC1_9.out); (case side11 => exact Kd.C_below HR1_10.out (by repeat (first | (with_reducible first | exact HB.out | apply below_alloc | apply pw_below_drewN | apply below_drew1 | refine below_set ?_ GE238.out | refine below_set ?_ GE239.out | refine below_set ?_ GE312.out) | exact HB.out))); (case side12 => exact HC1_10.out); rintro e w60 ⟨v317, v320, v325, v328, v331, v334, rfl, ho0, ho1, ho2, ho3, ho4, ho5, hb⟩; refine ⟨_, rfl, ?_⟩; have n0_ := Aside0.mk (Kd.R_mono (Kd.R_told (Kd.R_told (Kd.R_told (Kd.R_told (Kd.R_old (by (with_reducible repeat (first | apply Kd.R_alloc | apply Kd.R_drewN | apply Kd.R_drew)); exact (Kd.R_mono (Kd.R_fars (Kd.R_types HO247.out BK312.out (by decide)) (fun _ hk => hk.2)) (fun _ h_ => h_.1))) hb) (Kd.R_base ho0)) (Kd.R_base ho1)) (Kd.R_base ho2)) (Kd.R_base ho3)) (fun _ h_ => h_.1)); have n1_ := Aside0.mk (Kd.R_mono (Kd.R_told (Kd.R_told (Kd.R_told (Kd.R_told (Kd.R_old (by (with_reducible repeat (first | apply Kd.R_alloc | apply Kd.R_drewN | apply Kd.R_drew)); exact (Kd.R_mono (Kd.R_fars (Kd.R_types HO250.out BK312.out (by decide)) (fun _ hk => hk.2)) (fun _ h_ => h_.1))) hb) (Kd.R_base ho0)) (Kd.R_base ho1)) (Kd.R_base ho2)) (Kd.R_base ho3)) (fun _ h_ => h_.1)); have n2_ := Aside0.mk (Kd.R_mono (Kd.R_told (Kd.R_told (Kd.R_told (Kd.R_told (Kd.R_old (by (with_reducible repeat (first | apply Kd.R_alloc | apply Kd.R_drewN | apply Kd.R_drew)); exact (Kd.R_mono (Kd.R_fars (Kd.R_types HO255.out BK312.out (by decide)) (fun _ hk => hk.2)) (fun _ h_ => h_.1))) hb) (Kd.R_base ho0)) (Kd.R_base ho1)) (Kd.R_base ho2)) (Kd.R_base ho3)) (fun _ h_ => h_.1)); have n3_ := Aside0.mk (Kd.R_mono (Kd.R_told (Kd.R_told (Kd.R_told (Kd.R_told (Kd.R_old (by (with_reducible repeat (first | apply Kd.R_alloc | apply Kd.R_drewN | apply Kd.R_drew)); exact (Kd.R_mono (Kd.R_fars (Kd.R_types HO258.out BK312.out (by decide)) (fun _ hk => hk.2)) (fun _ h_ => h_.1))) hb) (Kd.R_base ho0)) (Kd.R_base ho1)) (Kd.R_base ho2)) (Kd.R_base ho3)) (fun _ h_ => h_.1)); have n4_ := Aside0.mk (Kd.S_mono (Kd.S_told (Kd.S_told (Kd.S_told (Kd.S_told (Kd.S_told (Kd.S_told (Kd.S_old (by (with_reducible repeat (first | apply Kd.S_alloc | apply Kd.S_drewN | apply Kd.S_drew)); exact (Kd.S_mono (Kd.S_fars (Kd.S_types HO261.out BK312.out (by decide)) (fun _ hk => hk.2)) (fun _ h_ => h_.1))) hb) (Kd.R_base ho0)) (Kd.R_base ho1)) (Kd.R_base ho2)) (Kd.R_base ho3)) (Kd.S_base ho4)) (Kd.S_base ho5)) (fun _ h_ => h_.1)); have n5_ := Aside0.mk (Kd.S_mono (Kd.S_told (Kd.S_told (Kd.S_told (Kd.S_told (Kd.S_told (Kd.S_told (Kd.S_old (by (with_reducible repeat (first | apply Kd.S_alloc | apply Kd.S_drewN | apply Kd.S_drew)); exact (Kd.S_mono (Kd.S_fars (Kd.S_types HO264.out BK312.out (by decide)) (fun _ hk => hk.2)) (fun _ h_ => h_.1))) hb) (Kd.R_base ho0)) (Kd.R_base ho1)) (Kd.R_base ho2)) (Kd.R_base ho3)) (Kd.S_base ho4)) (Kd.S_base ho5)) (fun _ h_ => h_.1)); have n6_ := Aside0.mk (Kd.R_mono (Kd.R_told (Kd.R_told (Kd.R_told (Kd.R_told (Kd.R_old (by (with_reducible repeat (first | apply Kd.R_alloc | apply Kd.R_drewN | apply Kd.R_drew)); exact (Kd.R_mono (Kd.R_fars (Kd.R_types HO270.out BK312.out (by decide)) (fun _ hk => hk.2)) (fun _ h_ => h_.1))) hb) (Kd.R_base ho0)) (Kd.R_base ho1)) (Kd.R_base ho2)) (Kd.R_base ho3)) (fun _ h_ => h_.1)); have n7_ := Aside0.mk (Kd.R_mono (Kd.R_told (Kd.R_told (Kd.R_told (Kd.R_told (Kd.R_old (by (with_reducible repeat (first | apply Kd.R_alloc | apply Kd.R_drewN | apply Kd.R_drew)); exact (Kd.R_mono (Kd.R_fars (Kd.R_types HO273.out BK312.out (by decide)) (fun _ hk => hk.2)) (fun _ h_ => h_.1))) hb) (Kd.R_base ho0)) (Kd.R_base ho1)) (Kd.R_base ho2)) (Kd.R_base ho3)) (fun _ h_ => h_.1)); have n8_ := Aside0.mk (Kd.R_mono (Kd.R_told (Kd.R_told (Kd.R_told (Kd.R_told (Kd.R_old (by (with_reducible repeat (first | apply Kd.R_alloc | apply Kd.R_drewN | apply Kd.R_drew)); exact (Kd.R_mono (Kd.R_fars (Kd.R_types HO278.out BK312.out (by decide)) (fun _ hk => hk.2)) (fun _ h_ => h_.1))) hb) (Kd.R_base ho0)) (Kd.R_base ho1)) (Kd.R_base ho2)) (Kd.R_base ho3)) (fun _ h_ => h_.1)); have n9_ := Aside0.mk (Kd.R_mono (Kd.R_told (Kd.R_told (Kd.R_told (Kd.R_told (Kd.R_old (by (with_reducible repeat (first | apply Kd.R_alloc | apply Kd.R_drewN | apply Kd.R_drew)); exact (Kd.R_mono (Kd.R_fars (Kd.R_types HO281.out BK312.out (by decide)) (fun _ hk => hk.2)) (fun _ h_ => h_.1))) hb) (Kd.R_base ho0)) (Kd.R_base ho1)) (Kd.R_base ho2)) (Kd.R_base ho3)) (fun _ h_ => h_.1)); have n10_ := Aside0.mk (Kd.S_mono (Kd.S_told (Kd.S_told (Kd.S_told (Kd.S_told (Kd.S_told (Kd.S_told (Kd.S_old (by (with_reducible repeat (first | apply Kd.S_alloc | apply Kd.S_drewN | apply Kd.S_drew)); exact (Kd.S_mono (Kd.S_fars (Kd.S_types HO284.out BK312.out (by decide)) (fun _ hk => hk.2)) (fun _ h_ => h_.1))) hb) (Kd.R_base ho0)) (Kd.R_base ho1)) (Kd.R_base ho2)) (Kd.R_base ho3)) (Kd.S_base ho4)) (Kd.S_base ho5)) (fun _ h_ => h_.1)); have n11_ := Aside0.mk (Kd.S_mono (Kd.S_told (Kd.S_told (Kd.S_told (Kd.S_told (Kd.S_told (Kd.S_told (Kd.S_old (by (with_reducible repeat (first | apply Kd.S_alloc | apply Kd.S_drewN | apply Kd.S_drew)); exact (Kd.S_mono (Kd.S_fars (Kd.S_types HO287.out BK312.out (by decide)) (fun _ hk => hk.2)) (fun _ h_ => h_.1))) hb) (Kd.R_base ho0)) (Kd.R_base ho1)) (Kd.R_base ho2)) (Kd.R_base ho3)) (Kd.S_base ho4)) (Kd.S_base ho5)) (fun _ h_ => h_.1)); have n12_ := Aside0.mk (Kd.R_mono (Kd.R_told (Kd.R_told (Kd.R_told (Kd.R_told (Kd.R_old (by (with_reducible repeat (first | apply Kd.R_alloc | apply Kd.R_drewN | apply Kd.R_drew)); exact (Kd.R_mono (Kd.R_fars (Kd.R_types HO294.out BK312.out (by decide)) (fun _ hk => hk.2)) (fun _ h_ => h_.1))) hb) (Kd.R_base ho0)) (Kd.R_base ho1)) (Kd.R_base ho2)) (Kd.R_base ho3)) (fun _ h_ => h_.1)); have n13_ := Aside0.mk (Kd.R_mono (Kd.R_told (Kd.R_told (Kd.R_told (Kd.R_told (Kd.R_old (by (with_reducible repeat (first | apply Kd.R_alloc | apply Kd.R_drewN | apply Kd.R_drew)); exact (Kd.R_mono (Kd.R_fars (Kd.R_types HO297.out BK312.out (by decide)) (fun _ hk => hk.2)) (fun _ h_ => h_.1))) hb) (Kd.R_base ho0)) (Kd.R_base ho1)) (Kd.R_base ho2)) (Kd.R_base ho3)) (fun _ h_ => h_.1)); have n14_ := Aside0.mk (Kd.R_mono (Kd.R_told (Kd.R_told (Kd.R_told (Kd.R_told (Kd.R_old (by (with_reducible repeat (first | apply Kd.R_alloc | apply Kd.R_drewN | apply Kd.R_drew)); exact (Kd.R_mono (Kd.R_fars (Kd.R_types HO302.out BK312.out (by decide)) (fun _ hk => hk.2)) (fun _ h_ => h_.1))) hb) (Kd.R_base ho0)) (Kd.R_base ho1)) (Kd.R_base ho2)) (Kd.R_base ho3)) (fun _ h_ => h_.1)); have n15_ := Aside0.mk (Kd.R_mono (Kd.R_told (Kd.R_told (Kd.R_told (Kd.R_told (Kd.R_old (by (with_reducible repeat (first | apply Kd.R_alloc | apply Kd.R_drewN | apply Kd.R_drew)); exact (Kd.R_mono (Kd.R_fars (Kd.R_types HO305.out BK312.out (by decide)) (fun _ hk => hk.2)) (fun _ h_ => h_.1))) hb) (Kd.R_base ho0)) (Kd.R_base ho1)) (Kd.R_base ho2)) (Kd.R_base ho3)) (fun _ h_ => h_.1)); have n16_ := Aside0.mk (Kd.S_mono (Kd.S_told (Kd.S_told (Kd.S_told (Kd.S_told (Kd.S_told (Kd.S_told (Kd.S_old (by (with_reducible repeat (first | apply Kd.S_alloc | apply Kd.S_drewN | apply Kd.S_drew)); exact (Kd.S_mono (Kd.S_fars (Kd.S_types HO308.out BK312.out (by decide)) (fun _ hk => hk.2)) (fun _ h_ => h_.1))) hb) (Kd.R_base ho0)) (Kd.R_base ho1)) (Kd.R_base ho2)) (Kd.R_base ho3)) (Kd.S_base ho4)) (Kd.S_base ho5)) (fun _ h_ => h_.1)); have n17_ := Aside0.mk (Kd.S_mono (Kd.S_told (Kd.S_told (Kd.S_told (Kd.S_told (Kd.S_told (Kd.S_told (Kd.S_old (by (with_reducible repeat (first | apply Kd.S_alloc | apply Kd.S_drewN | apply Kd.S_drew)); exact (Kd.S_mono (Kd.S_fars (Kd.S_types HO311.out BK312.out (by decide)) (fun _ hk => hk.2)) (fun _ h_ => h_.1))) hb) (Kd.R_base ho0)) (Kd.R_base ho1)) (Kd.R_base ho2)) (Kd.R_base ho3)) (Kd.S_base ho4)) (Kd.S_base ho5)) (fun _ h_ => h_.1)); have n18_ := Aside0.mk (Kd.R_lower (Kd.R_new' (Kd.R_new' (Kd.R_new' (Kd.R_new' (Kd.R_new' (Kd.R_new' (Kd.R_new' (Kd.R_new' (Kd.R_new' (Kd.R_new' (Kd.R_new' (Kd.R_new' ho0 (Kd.R_lt (by (with_reducible repeat (first | apply Kd.R_alloc | apply Kd.R_drewN | apply Kd.R_drew)); exact (Kd.R_mono (Kd.R_fars (Kd.R_types HO247.out BK312.out (by decide)) (fun _ hk => hk.2)) (fun _ h_ => h_.1))))) (Kd.R_lt (by (with_reducible repeat (first | apply Kd.R_alloc | apply Kd.R_drewN | apply Kd.R_drew)); exact (Kd.R_mono (Kd.R_fars (Kd.R_types HO250.out BK312.out (by decide)) (fun _ hk => hk.2)) (fun _ h_ => h_.1))))) (Kd.R_lt (by (with_reducible repeat (first | apply Kd.R_alloc | apply Kd.R_drewN | apply Kd.R_drew)); exact (Kd.R_mono (Kd.R_fars (Kd.R_types HO255.out BK312.out (by decide)) (fun _ hk => hk.2)) (fun _ h_ => h_.1))))) (Kd.R_lt (by (with_reducible repeat (first | apply Kd.R_alloc | apply Kd.R_drewN | apply Kd.R_drew)); exact (Kd.R_mono (Kd.R_fars (Kd.R_types HO258.out BK312.out (by decide)) (fun _ hk => hk.2)) (fun _ h_ => h_.1))))) (Kd.R_lt (by (with_reducible repeat (first | apply Kd.R_alloc | apply Kd.R_drewN | apply Kd.R_drew)); exact (Kd.R_mono (Kd.R_fars (Kd.R_types HO270.out BK312.out (by decide)) (fun _ hk => hk.2)) (fun _ h_ => h_.1))))) (Kd.R_lt (by (with_reducible repeat (first | apply Kd.R_alloc | apply Kd.R_drewN | apply Kd.R_drew)); exact (Kd.R_mono (Kd.R_fars (Kd.R_types HO273.out BK312.out (by decide)) (fun _ hk => hk.2)) (fun _ h_ => h_.1))))) (Kd.R_lt (by (with_reducible repeat (first | apply Kd.R_alloc | apply Kd.R_drewN | apply Kd.R_drew)); exact (Kd.R_mono (Kd.R_fars (Kd.R_types HO278.out BK312.out (by decide)) (fun _ hk => hk.2)) (fun _ h_ => h_.1))))) (Kd.R_lt (by (with_reducible repeat (first | apply Kd.R_alloc | apply Kd.R_drewN | apply Kd.R_drew)); exact (Kd.R_mono (Kd.R_fars (Kd.R_types HO281.out BK312.out (by decide)) (fun _ hk => hk.2)) (fun _ h_ => h_.1))))) (Kd.R_lt (by (with_reducible repeat (first | apply Kd.R_alloc | apply Kd.R_drewN | apply Kd.R_drew)); exact (Kd.R_mono (Kd.R_fars (Kd.R_types HO294.out BK312.out (by decide)) (fun _ hk => hk.2)) (fun _ h_ => h_.1))))) (Kd.R_lt (by (with_reducible repeat (first | apply Kd.R_alloc | apply Kd.R_drewN | apply Kd.R_drew)); exact (Kd.R_mono (Kd.R_fars (Kd.R_types HO297.out BK312.out (by decide)) (fun _ hk => hk.2)) (fun _ h_ => h_.1))))) (Kd.R_lt (by (with_reducible repeat (first | apply Kd.R_alloc | apply Kd.R_drewN | apply Kd.R_drew)); exact (Kd.R_mono (Kd.R_fars (Kd.R_types HO302.out BK312.out (by decide)) (fun _ hk => hk.2)) (fun _ h_ => h_.1))))) (Kd.R_lt (by (with_reducible repeat (first | apply Kd.R_alloc | apply Kd.R_drewN | apply Kd.R_drew)); exact (Kd.R_mono (Kd.R_fars (Kd.R_types HO305.out BK312.out (by decide)) (fun _ hk => hk.2)) (fun _ h_ => h_.1))))) (below_size (by repeat (first | (with_reducible first | exact HB.out | apply below_alloc | apply pw_below_drewN | apply below_drew1 | refine below_set ?_ GE238.out | refine below_set ?_ GE239.out | refine below_set ?_ GE312.out) | exact HB.out)))); have n19_ := Aside0.mk (Kd.R_lower (Kd.R_new' (Kd.R_new' (Kd.R_new' (Kd.R_new' (Kd.R_new' (Kd.R_new' (Kd.R_new' (Kd.R_new' (Kd.R_new' (Kd.R_new' (Kd.R_new' (Kd.R_new' ho1 (Kd.R_lt (by (with_reducible repeat (first | apply Kd.R_alloc | apply Kd.R_drewN | apply Kd.R_drew)); exact (Kd.R_mono (Kd.R_fars (Kd.R_types HO247.out BK312.out (by decide)) (fun _ hk => hk.2)) (fun _ h_ => h_.1))))) (Kd.R_lt (by (with_reducible repeat (first | apply Kd.R_alloc | apply Kd.R_drewN | apply Kd.R_drew)); exact (Kd.R_mono (Kd.R_fars (Kd.R_types HO250.out BK312.out (by decide)) (fun _ hk => hk.2)) (fun _ h_ => h_.1))))) (Kd.R_lt (by (with_reducible repeat (first | apply Kd.R_alloc | apply Kd.R_drewN | apply Kd.R_drew)); exact (Kd.R_mono (Kd.R_fars (Kd.R_types HO255.out BK312.out (by decide)) (fun _ hk => hk.2)) (fun _ h_ => h_.1))))) (Kd.R_lt (by (with_reducible repeat (first | apply Kd.R_alloc | apply Kd.R_drewN | apply Kd.R_drew)); exact (Kd.R_mono (Kd.R_fars (Kd.R_types HO258.out BK312.out (by decide)) (fun _ hk => hk.2)) (fun _ h_ => h_.1))))) (Kd.R_lt (by (with_reducible repeat (first | apply Kd.R_alloc | apply Kd.R_drewN | apply Kd.R_drew)); exact (Kd.R_mono (Kd.R_fars (Kd.R_types HO270.out BK312.out (by decide)) (fun _ hk => hk.2)) (fun _ h_ => h_.1))))) (Kd.R_lt (by (with_reducible repeat (first | apply Kd.R_alloc | apply Kd.R_drewN | apply Kd.R_drew)); exact (Kd.R_mono (Kd.R_fars (Kd.R_types HO273.out BK312.out (by decide)) (fun _ hk => hk.2)) (fun _ h_ => h_.1))))) (Kd.R_lt (by (with_reducible repeat (first | apply Kd.R_alloc | apply Kd.R_drewN | apply Kd.R_drew)); exact (Kd.R_mono (Kd.R_fars (Kd.R_types HO278.out BK312.out (by decide)) (fun _ hk => hk.2)) (fun _ h_ => h_.1))))) (Kd.R_lt (by (with_reducible repeat (first | apply Kd.R_alloc | apply Kd.R_drewN | apply Kd.R_drew)); exact (Kd.R_mono (Kd.R_fars (Kd.R_types HO281.out BK312.out (by decide)) (fun _ hk => hk.2)) (fun _ h_ => h_.1))))) (Kd.R_lt (by (with_reducible repeat (first | apply Kd.R_alloc | apply Kd.R_drewN | apply Kd.R_drew)); exact (Kd.R_mono (Kd.R_fars (Kd.R_types HO294.out BK312.out (by decide)) (fun _ hk => hk.2)) (fun _ h_ => h_.1))))) (Kd.R_lt (by (with_reducible repeat (first | apply Kd.R_alloc | apply Kd.R_drewN | apply Kd.R_drew)); exact (Kd.R_mono (Kd.R_fars (Kd.R_types HO297.out BK312.out (by decide)) (fun _ hk => hk.2)) (fun _ h_ => h_.1))))) (Kd.R_lt (by (with_reducible repeat (first | apply Kd.R_alloc | apply Kd.R_drewN | apply Kd.R_drew)); exact (Kd.R_mono (Kd.R_fars (Kd.R_types HO302.out BK312.out (by decide)) (fun _ hk => hk.2)) (fun _ h_ => h_.1))))) (Kd.R_lt (by (with_reducible repeat (first | apply Kd.R_alloc | apply Kd.R_drewN | apply Kd.R_drew)); exact (Kd.R_mono (Kd.R_fars (Kd.R_types HO305.out BK312.out (by decide)) (fun _ hk => hk.2)) (fun _ h_ => h_.1))))) (below_size (by repeat (first | (with_reducible first | exact HB.out | apply below_alloc | apply pw_below_drewN | apply below_drew1 | refine below_set ?_ GE238.out | refine below_set ?_ GE239.out | refine below_set ?_ GE312.out) | exact HB.out)))); have n20_ := Aside0.mk (Kd.R_lower (Kd.R_new' (Kd.R_new' (Kd.R_new' (Kd.R_new' (Kd.R_new' (Kd.R_new' (Kd.R_new' (Kd.R_new' (Kd.R_new' (Kd.R_new' (Kd.R_new' (Kd.R_new' ho2 (Kd.R_lt (by (with_reducible repeat (first | apply Kd.R_alloc | apply Kd.R_drewN | apply Kd.R_drew)); exact (Kd.R_mono (Kd.R_fars (Kd.R_types HO247.out BK312.out (by decide)) (fun _ hk => hk.2)) (fun _ h_ => h_.1))))) (Kd.R_lt (by (with_reducible repeat (first | apply Kd.R_alloc | apply Kd.R_drewN | apply Kd.R_drew)); exact (Kd.R_mono (Kd.R_fars (Kd.R_types HO250.out BK312.out (by decide)) (fun _ hk => hk.2)) (fun _ h_ => h_.1))))) (Kd.R_lt (by (with_reducible repeat (first | apply Kd.R_alloc | apply Kd.R_drewN | apply Kd.R_drew)); exact (Kd.R_mono (Kd.R_fars (Kd.R_types HO255.out BK312.out (by decide)) (fun _ hk => hk.2)) (fun _ h_ => h_.1))))) (Kd.R_lt (by (with_reducible repeat (first | apply Kd.R_alloc | apply Kd.R_drewN | apply Kd.R_drew)); exact (Kd.R_mono (Kd.R_fars (Kd.R_types HO258.out BK312.out (by decide)) (fun _ hk => hk.2)) (fun _ h_ => h_.1))))) (Kd.R_lt (by (with_reducible repeat (first | apply Kd.R_alloc | apply Kd.R_drewN | apply Kd.R_drew)); exact (Kd.R_mono (Kd.R_fars (Kd.R_types HO270.out BK312.out (by decide)) (fun _ hk => hk.2)) (fun _ h_ => h_.1))))) (Kd.R_lt (by (with_reducible repeat (first | apply Kd.R_alloc | apply Kd.R_drewN | apply Kd.R_drew)); exact (Kd.R_mono (Kd.R_fars (Kd.R_types HO273.out BK312.out (by decide)) (fun _ hk => hk.2)) (fun _ h_ => h_.1))))) (Kd.R_lt (by (with_reducible repeat (first | apply Kd.R_alloc | apply Kd.R_drewN | apply Kd.R_drew)); exact (Kd.R_mono (Kd.R_fars (Kd.R_types HO278.out BK312.out (by decide)) (fun _ hk => hk.2)) (fun _ h_ => h_.1))))) (Kd.R_lt (by (with_reducible repeat (first | apply Kd.R_alloc | apply Kd.R_drewN | apply Kd.R_drew)); exact (Kd.R_mono (Kd.R_fars (Kd.R_types HO281.out BK312.out (by decide)) (fun _ hk => hk.2)) (fun _ h_ => h_.1))))) (Kd.R_lt (by (with_reducible repeat (first | apply Kd.R_alloc | apply Kd.R_drewN | apply Kd.R_drew)); exact (Kd.R_mono (Kd.R_fars (Kd.R_types HO294.out BK312.out (by decide)) (fun _ hk => hk.2)) (fun _ h_ => h_.1))))) (Kd.R_lt (by (with_reducible repeat (first | apply Kd.R_alloc | apply Kd.R_drewN | apply Kd.R_drew)); exact (Kd.R_mono (Kd.R_fars (Kd.R_types HO297.out BK312.out (by decide)) (fun _ hk => hk.2)) (fun _ h_ => h_.1))))) (Kd.R_lt (by (with_reducible repeat (first | apply Kd.R_alloc | apply Kd.R_drewN | apply Kd.R_drew)); exact (Kd.R_mono (Kd.R_fars (Kd.R_types HO302.out BK312.out (by decide)) (fun _ hk => hk.2)) (fun _ h_ => h_.1))))) (Kd.R_lt (by (with_reducible repeat (first | apply Kd.R_alloc | apply Kd.R_drewN | apply Kd.R_drew)); exact (Kd.R_mono (Kd.R_fars (Kd.R_types HO305.out BK312.out (by decide)) (fun _ hk => hk.2)) (fun _ h_ => h_.1))))) (below_size (by repeat (first | (with_reducible first | exact HB.out | apply below_alloc | apply pw_below_drewN | apply below_drew1 | refine below_set ?_ GE238.out | refine below_set ?_ GE239.out | refine below_set ?_ GE312.out) | exact HB.out)))); have n21_ := Aside0.mk (Kd.R_lower (Kd.R_new' (Kd.R_new' (Kd.R_new' (Kd.R_new' (Kd.R_new' (Kd.R_new' (Kd.R_new' (Kd.R_new' (Kd.R_new' (Kd.R_new' (Kd.R_new' (Kd.R_new' ho3 (Kd.R_lt (by (with_reducible repeat (first | apply Kd.R_alloc | apply Kd.R_drewN | apply Kd.R_drew)); exact (Kd.R_mono (Kd.R_fars (Kd.R_types HO247.out BK312.out (by decide)) (fun _ hk => hk.2)) (fun _ h_ => h_.1))))) (Kd.R_lt (by (with_reducible repeat (first | apply Kd.R_alloc | apply Kd.R_drewN | apply Kd.R_drew)); exact (Kd.R_mono (Kd.R_fars (Kd.R_types HO250.out BK312.out (by decide)) (fun _ hk => hk.2)) (fun _ h_ => h_.1))))) (Kd.R_lt (by (with_reducible repeat (first | apply Kd.R_alloc | apply Kd.R_drewN | apply Kd.R_drew)); exact (Kd.R_mono (Kd.R_fars (Kd.R_types HO255.out BK312.out (by decide)) (fun _ hk => hk.2)) (fun _ h_ => h_.1))))) (Kd.R_lt (by (with_reducible repeat (first | apply Kd.R_alloc | apply Kd.R_drewN | apply Kd.R_drew)); exact (Kd.R_mono (Kd.R_fars (Kd.R_types HO258.out BK312.out (by decide)) (fun _ hk => hk.2)) (fun _ h_ => h_.1))))) (Kd.R_lt (by (with_reducible repeat (first | apply Kd.R_alloc | apply Kd.R_drewN | apply Kd.R_drew)); exact (Kd.R_mono (Kd.R_fars (Kd.R_types HO270.out BK312.out (by decide)) (fun _ hk => hk.2)) (fun _ h_ => h_.1))))) (Kd.R_lt (by (with_reducible repeat (first | apply Kd.R_alloc | apply Kd.R_drewN | apply Kd.R_drew)); exact (Kd.R_mono (Kd.R_fars (Kd.R_types HO273.out BK312.out (by decide)) (fun _ hk => hk.2)) (fun _ h_ => h_.1))))) (Kd.R_lt (by (with_reducible repeat (first | apply Kd.R_alloc | apply Kd.R_drewN | apply Kd.R_drew)); exact (Kd.R_mono (Kd.R_fars (Kd.R_types HO278.out BK312.out (by decide)) (fun _ hk => hk.2)) (fun _ h_ => h_.1))))) (Kd.R_lt (by (with_reducible repeat (first | apply Kd.R_alloc | apply Kd.R_drewN | apply Kd.R_drew)); exact (Kd.R_mono (Kd.R_fars (Kd.R_types HO281.out BK312.out (by decide)) (fun _ hk => hk.2)) (fun _ h_ => h_.1))))) (Kd.R_lt (by (with_reducible repeat (first | apply Kd.R_alloc | apply Kd.R_drewN | apply Kd.R_drew)); exact (Kd.R_mono (Kd.R_fars (Kd.R_types HO294.out BK312.out (by decide)) (fun _ hk => hk.2)) (fun _ h_ => h_.1))))) (Kd.R_lt (by (with_reducible repeat (first | apply Kd.R_alloc | apply Kd.R_drewN | apply Kd.R_drew)); exact (Kd.R_mono (Kd.R_fars (Kd.R_types HO297.out BK312.out (by decide)) (fun _ hk => hk.2)) (fun _ h_ => h_.1))))) (Kd.R_lt (by (with_reducible repeat (first | apply Kd.R_alloc | apply Kd.R_drewN | apply Kd.R_drew)); exact (Kd.R_mono (Kd.R_fars (Kd.R_types HO302.out BK312.out (by decide)) (fun _ hk => hk.2)) (fun _ h_ => h_.1))))) (Kd.R_lt (by (with_reducible repeat (first | apply Kd.R_alloc | apply Kd.R_drewN | apply Kd.R_drew)); exact (Kd.R_mono (Kd.R_fars (Kd.R_types HO305.out BK312.out (by decide)) (fun _ hk => hk.2)) (fun _ h_ => h_.1))))) (below_size (by repeat (first | (with_reducible first | exact HB.out | apply below_alloc | apply pw_below_drewN | apply below_drew1 | refine below_set ?_ GE238.out | refine below_set ?_ GE239.out | refine below_set ?_ GE312.out) | exact HB.out)))); have n22_ := Aside0.mk (Kd.S_lower (Kd.S_new' (Kd.S_new' (Kd.S_new' (Kd.S_new' (Kd.S_new' (Kd.S_new' (Kd.S_new' (Kd.S_new' (Kd.S_new' (Kd.S_new' (Kd.S_new' (Kd.S_new' (Kd.S_new' (Kd.S_new' (Kd.S_new' (Kd.S_new' (Kd.S_new' (Kd.S_new' ho4 (Kd.R_lt (by (with_reducible repeat (first | apply Kd.R_alloc | apply Kd.R_drewN | apply Kd.R_drew)); exact (Kd.R_mono (Kd.R_fars (Kd.R_types HO247.out BK312.out (by decide)) (fun _ hk => hk.2)) (fun _ h_ => h_.1))))) (Kd.R_lt (by (with_reducible repeat (first | apply Kd.R_alloc | apply Kd.R_drewN | apply Kd.R_drew)); exact (Kd.R_mono (Kd.R_fars (Kd.R_types HO250.out BK312.out (by decide)) (fun _ hk => hk.2)) (fun _ h_ => h_.1))))) (Kd.R_lt (by (with_reducible repeat (first | apply Kd.R_alloc | apply Kd.R_drewN | apply Kd.R_drew)); exact (Kd.R_mono (Kd.R_fars (Kd.R_types HO255.out BK312.out (by decide)) (fun _ hk => hk.2)) (fun _ h_ => h_.1))))) (Kd.R_lt (by (with_reducible repeat (first | apply Kd.R_alloc | apply Kd.R_drewN | apply Kd.R_drew)); exact (Kd.R_mono (Kd.R_fars (Kd.R_types HO258.out BK312.out (by decide)) (fun _ hk => hk.2)) (fun _ h_ => h_.1))))) (Kd.S_lt (by (with_reducible repeat (first | apply Kd.S_alloc | apply Kd.S_drewN | apply Kd.S_drew)); exact (Kd.S_mono (Kd.S_fars (Kd.S_types HO261.out BK312.out (by decide)) (fun _ hk => hk.2)) (fun _ h_ => h_.1))))) (Kd.S_lt (by (with_reducible repeat (first | apply Kd.S_alloc | apply Kd.S_drewN | apply Kd.S_drew)); exact (Kd.S_mono (Kd.S_fars (Kd.S_types HO264.out BK312.out (by decide)) (fun _ hk => hk.2)) (fun _ h_ => h_.1))))) (Kd.R_lt (by (with_reducible repeat (first | apply Kd.R_alloc | apply Kd.R_drewN | apply Kd.R_drew)); exact (Kd.R_mono (Kd.R_fars (Kd.R_types HO270.out BK312.out (by decide)) (fun _ hk => hk.2)) (fun _ h_ => h_.1))))) (Kd.R_lt (by (with_reducible repeat (first | apply Kd.R_alloc | apply Kd.R_drewN | apply Kd.R_drew)); exact (Kd.R_mono (Kd.R_fars (Kd.R_types HO273.out BK312.out (by decide)) (fun _ hk => hk.2)) (fun _ h_ => h_.1))))) (Kd.R_lt (by (with_reducible repeat (first | apply Kd.R_alloc | apply Kd.R_drewN | apply Kd.R_drew)); exact (Kd.R_mono (Kd.R_fars (Kd.R_types HO278.out BK312.out (by decide)) (fun _ hk => hk.2)) (fun _ h_ => h_.1))))) (Kd.R_lt (by (with_reducible repeat (first | apply Kd.R_alloc | apply Kd.R_drewN | apply Kd.R_drew)); exact (Kd.R_mono (Kd.R_fars (Kd.R_types HO281.out BK312.out (by decide)) (fun _ hk => hk.2)) (fun _ h_ => h_.1))))) (Kd.S_lt (by (with_reducible repeat (first | apply Kd.S_alloc | apply Kd.S_drewN | apply Kd.S_drew)); exact (Kd.S_mono (Kd.S_fars (Kd.S_types HO284.out BK312.out (by decide)) (fun _ hk => hk.2)) (fun _ h_ => h_.1))))) (Kd.S_lt (by (with_reducible repeat (first | apply Kd.S_alloc | apply Kd.S_drewN | apply Kd.S_drew)); exact (Kd.S_mono (Kd.S_fars (Kd.S_types HO287.out BK312.out (by decide)) (fun _ hk => hk.2)) (fun _ h_ => h_.1))))) (Kd.R_lt (by (with_reducible repeat (first | apply Kd.R_alloc | apply Kd.R_drewN | apply Kd.R_drew)); exact (Kd.R_mono (Kd.R_fars (Kd.R_types HO294.out BK312.out (by decide)) (fun _ hk => hk.2)) (fun _ h_ => h_.1))))) (Kd.R_lt (by (with_reducible repeat (first | apply Kd.R_alloc | apply Kd.R_drewN | apply Kd.R_drew)); exact (Kd.R_mono (Kd.R_fars (Kd.R_types HO297.out BK312.out (by decide)) (fun _ hk => hk.2)) (fun _ h_ => h_.1))))) (Kd.R_lt (by (with_reducible repeat (first | apply Kd.R_alloc | apply Kd.R_drewN | apply Kd.R_drew)); exact (Kd.R_mono (Kd.R_fars (Kd.R_types HO302.out BK312.out (by decide)) (fun _ hk => hk.2)) (fun _ h_ => h_.1))))) (Kd.R_lt (by (with_reducible repeat (first | apply Kd.R_alloc | apply Kd.R_drewN | apply Kd.R_drew)); exact (Kd.R_mono (Kd.R_fars (Kd.R_types HO305.out BK312.out (by decide)) (fun _ hk => hk.2)) (fun _ h_ => h_.1))))) (Kd.S_lt (by (with_reducible repeat (first | apply Kd.S_alloc | apply Kd.S_drewN | apply Kd.S_drew)); exact (Kd.S_mono (Kd.S_fars (Kd.S_types HO308.out BK312.out (by decide)) (fun _ hk => hk.2)) (fun _ h_ => h_.1))))) (Kd.S_lt (by (with_reducible repeat (first | apply Kd.S_alloc | apply Kd.S_drewN | apply Kd.S_drew)); exact (Kd.S_mono (Kd.S_fars (Kd.S_types HO311.out BK312.out (by decide)) (fun _ hk => hk.2)) (fun _ h_ => h_.1))))) (below_size (by repeat (first | (with_reducible first | exact HB.out | apply below_alloc | apply pw_below_drewN | apply below_drew1 | refine below_set ?_ GE238.out | refine below_set ?_ GE239.out | refine below_set ?_ GE312.out) | exact HB.out)))); have n23_ := Aside0.mk (Kd.S_lower (Kd.S_new' (Kd.S_new' (Kd.S_new' (Kd.S_new' (Kd.S_new' (Kd.S_new' (Kd.S_new' (Kd.S_new' (Kd.S_new' (Kd.S_new' (Kd.S_new' (Kd.S_new' (Kd.S_new' (Kd.S_new' (Kd.S_new' (Kd.S_new' (Kd.S_new' (Kd.S_new' ho5 (Kd.R_lt (by (with_reducible repeat (first | apply Kd.R_alloc | apply Kd.R_drewN | apply Kd.R_drew)); exact (Kd.R_mono (Kd.R_fars (Kd.R_types HO247.out BK312.out (by decide)) (fun _ hk => hk.2)) (fun _ h_ => h_.1))))) (Kd.R_lt (by (with_reducible repeat (first | apply Kd.R_alloc | apply Kd.R_drewN | apply Kd.R_drew)); exact (Kd.R_mono (Kd.R_fars (Kd.R_types HO250.out BK312.out (by decide)) (fun _ hk => hk.2)) (fun _ h_ => h_.1))))) (Kd.R_lt (by (with_reducible repeat (first | apply Kd.R_alloc | apply Kd.R_drewN | apply Kd.R_drew)); exact (Kd.R_mono (Kd.R_fars (Kd.R_types HO255.out BK312.out (by decide)) (fun _ hk => hk.2)) (fun _ h_ => h_.1))))) (Kd.R_lt (by (with_reducible repeat (first | apply Kd.R_alloc | apply Kd.R_drewN | apply Kd.R_drew)); exact (Kd.R_mono (Kd.R_fars (Kd.R_types HO258.out BK312.out (by decide)) (fun _ hk => hk.2)) (fun _ h_ => h_.1))))) (Kd.S_lt (by (with_reducible repeat (first | apply Kd.S_alloc | apply Kd.S_drewN | apply Kd.S_drew)); exact (Kd.S_mono (Kd.S_fars (Kd.S_types HO261.out BK312.out (by decide)) (fun _ hk => hk.2)) (fun _ h_ => h_.1))))) (Kd.S_lt (by (with_reducible repeat (first | apply Kd.S_alloc | apply Kd.S_drewN | apply Kd.S_drew)); exact (Kd.S_mono (Kd.S_fars (Kd.S_types HO264.out BK312.out (by decide)) (fun _ hk => hk.2)) (fun _ h_ => h_.1))))) (Kd.R_lt (by (with_reducible repeat (first | apply Kd.R_alloc | apply Kd.R_drewN | apply Kd.R_drew)); exact (Kd.R_mono (Kd.R_fars (Kd.R_types HO270.out BK312.out (by decide)) (fun _ hk => hk.2)) (fun _ h_ => h_.1))))) (Kd.R_lt (by (with_reducible repeat (first | apply Kd.R_alloc | apply Kd.R_drewN | apply Kd.R_drew)); exact (Kd.R_mono (Kd.R_fars (Kd.R_types HO273.out BK312.out (by decide)) (fun _ hk => hk.2)) (fun _ h_ => h_.1))))) (Kd.R_lt (by (with_reducible repeat (first | apply Kd.R_alloc | apply Kd.R_drewN | apply Kd.R_drew)); exact (Kd.R_mono (Kd.R_fars (Kd.R_types HO278.out BK312.out (by decide)) (fun _ hk => hk.2)) (fun _ h_ => h_.1))))) (Kd.R_lt (by (with_reducible repeat (first | apply Kd.R_alloc | apply Kd.R_drewN | apply Kd.R_drew)); exact (Kd.R_mono (Kd.R_fars (Kd.R_types HO281.out BK312.out (by decide)) (fun _ hk => hk.2)) (fun _ h_ => h_.1))))) (Kd.S_lt (by (with_reducible repeat (first | apply Kd.S_alloc | apply Kd.S_drewN | apply Kd.S_drew)); exact (Kd.S_mono (Kd.S_fars (Kd.S_types HO284.out BK312.out (by decide)) (fun _ hk => hk.2)) (fun _ h_ => h_.1))))) (Kd.S_lt (by (with_reducible repeat (first | apply Kd.S_alloc | apply Kd.S_drewN | apply Kd.S_drew)); exact (Kd.S_mono (Kd.S_fars (Kd.S_types HO287.out BK312.out (by decide)) (fun _ hk => hk.2)) (fun _ h_ => h_.1))))) (Kd.R_lt (by (with_reducible repeat (first | apply Kd.R_alloc | apply Kd.R_drewN | apply Kd.R_drew)); exact (Kd.R_mono (Kd.R_fars (Kd.R_types HO294.out BK312.out (by decide)) (fun _ hk => hk.2)) (fun _ h_ => h_.1))))) (Kd.R_lt (by (with_reducible repeat (first | apply Kd.R_alloc | apply Kd.R_drewN | apply Kd.R_drew)); exact (Kd.R_mono (Kd.R_fars (Kd.R_types HO297.out BK312.out (by decide)) (fun _ hk => hk.2)) (fun _ h_ => h_.1))))) (Kd.R_lt (by (with_reducible repeat (first | apply Kd.R_alloc | apply Kd.R_drewN | apply Kd.R_drew)); exact (Kd.R_mono (Kd.R_fars (Kd.R_types HO302.out BK312.out (by decide)) (fun _ hk => hk.2)) (fun _ h_ => h_.1))))) (Kd.R_lt (by (with_reducible repeat (first | apply Kd.R_alloc | apply Kd.R_drewN | apply Kd.R_drew)); exact (Kd.R_mono (Kd.R_fars (Kd.R_types HO305.out BK312.out (by decide)) (fun _ hk => hk.2)) (fun _ h_ => h_.1))))) (Kd.S_lt (by (with_reducible repeat (first | apply Kd.S_alloc | apply Kd.S_drewN | apply Kd.S_drew)); exact (Kd.S_mono (Kd.S_fars (Kd.S_types HO308.out BK312.out (by decide)) (fun _ hk => hk.2)) (fun _ h_ => h_.1))))) (Kd.S_lt (by (with_reducible repeat (first | apply Kd.S_alloc | apply Kd.S_drewN | apply Kd.S_drew)); exact (Kd.S_mono (Kd.S_fars (Kd.S_types HO311.out BK312.out (by decide)) (fun _ hk => hk.2)) (fun _ h_ => h_.1))))) (below_size (by repeat (first | (with_reducible first | exact HB.out | apply below_alloc | apply pw_below_drewN | apply below_drew1 | refine below_set ?_ GE238.out | refine below_set ?_ GE239.out | refine below_set ?_ GE312.out) | exact HB.out)))); have n24_ := Aside0.mk (blk_below (g := gb238) (o := .cells #[.int .i64 a0_0, .int .i64 a0_1, .int .i64 a0_2, .slice A0_3 l0_3.length c0_3, .slice A0_4 l0_4.length c0_4, .int .i64 a0_5, .int .i64 a0_6, .slice A0_7 l0_7.length c0_7, .slice A0_8 l0_8.length c0_8, .slice A0_9 l0_9.length c0_9, .slice A0_10 l0_10.length c0_10] 64 (0, 0)) (by (with_reducible repeat (first | refine blk_drewN ?_ _ | refine blk_drew ?_ | refine blk_alloc ?_ _)); refine blk_far ?_ NB238_312.out _; (with_reducible repeat (first | refine blk_drewN ?_ _ | refine blk_drew ?_ | refine blk_alloc ?_ _)); refine blk_far ?_ NB238_312.out _; (with_reducible repeat (first | refine blk_drewN ?_ _ | refine blk_drew ?_ | refine blk_alloc ?_ _)); refine blk_far ?_ NB238_312.out _; (with_reducible repeat (first | refine blk_drewN ?_ _ | refine blk_drew ?_ | refine blk_alloc ?_ _)); refine blk_far ?_ NB238_312.out _; (with_reducible repeat (first | refine blk_drewN ?_ _ | refine blk_drew ?_ | refine blk_alloc ?_ _)); refine blk_far ?_ NB238_312.out _; (with_reducible repeat (first | refine blk_drewN ?_ _ | refine blk_drew ?_ | refine blk_alloc ?_ _)); refine blk_far ?_ NB238_312.out _; (with_reducible repeat (first | refine blk_drewN ?_ _ | refine blk_drew ?_ | refine blk_alloc ?_ _)); refine blk_far ?_ NB238_312.out _; (with_reducible repeat (first | refine blk_drewN ?_ _ | refine blk_drew ?_ | refine blk_alloc ?_ _)); refine blk_far ?_ NB238_312.out _; (with_reducible repeat (first | refine blk_drewN ?_ _ | refine blk_drew ?_ | refine blk_alloc ?_ _)); refine blk_far ?_ NB238_312.out _; (with_reducible repeat (first | refine blk_drewN ?_ _ | refine blk_drew ?_ | refine blk_alloc ?_ _)); refine blk_far ?_ NB238_312.out _; (with_reducible repeat (first | refine blk_drewN ?_ _ | refine blk_drew ?_ | refine blk_alloc ?_ _)); refine blk_far ?_ NB238_312.out _; (with_reducible repeat (first | refine blk_drewN ?_ _ | refine blk_drew ?_ | refine blk_alloc ?_ _)); exact BK238.out) hb); have n25_ := Aside0.mk (blk_below (g := gb239) (o := .cells #[.int .i64 a1_0, .int .i64 a1_1, .int .i64 a1_2, .slice A1_3 l1_3.length c1_3, .slice A1_4 l1_4.length c1_4, .int .i64 a1_5, .int .i64 a1_6, .slice A1_7 l1_7.length c1_7, .slice A1_8 l1_8.length c1_8, .slice A1_9 l1_9.length c1_9, .slice A1_10 l1_10.length c1_10] 64 (0, 0)) (by (with_reducible repeat (first | refine blk_drewN ?_ _ | refine blk_drew ?_ | refine blk_alloc ?_ _)); refine blk_far ?_ NB239_312.out _; (with_reducible repeat (first | refine blk_drewN ?_ _ | refine blk_drew ?_ | refine blk_alloc ?_ _)); refine blk_far ?_ NB239_312.out _; (with_reducible repeat (first | refine blk_drewN ?_ _ | refine blk_drew ?_ | refine blk_alloc ?_ _)); refine blk_far ?_ NB239_312.out _; (with_reducible repeat (first | refine blk_drewN ?_ _ | refine blk_drew ?_ | refine blk_alloc ?_ _)); refine blk_far ?_ NB239_312.out _; (with_reducible repeat (first | refine blk_drewN ?_ _ | refine blk_drew ?_ | refine blk_alloc ?_ _)); refine blk_far ?_ NB239_312.out _; (with_reducible repeat (first | refine blk_drewN ?_ _ | refine blk_drew ?_ | refine blk_alloc ?_ _)); refine blk_far ?_ NB239_312.out _; (with_reducible repeat (first | refine blk_drewN ?_ _ | refine blk_drew ?_ | refine blk_alloc ?_ _)); refine blk_far ?_ NB239_312.out _; (with_reducible repeat (first | refine blk_drewN ?_ _ | refine blk_drew ?_ | refine blk_alloc ?_ _)); refine blk_far ?_ NB239_312.out _; (with_reducible repeat (first | refine blk_drewN ?_ _ | refine blk_drew ?_ | refine blk_alloc ?_ _)); refine blk_far ?_ NB239_312.out _; (with_reducible repeat (first | refine blk_drewN ?_ _ | refine blk_drew ?_ | refine blk_alloc ?_ _)); refine blk_far ?_ NB239_312.out _; (with_reducible repeat (first | refine blk_drewN ?_ _ | refine blk_drew ?_ | refine blk_alloc ?_ _)); refine blk_far ?_ NB239_312.out _; (with_reducible repeat (first | refine blk_drewN ?_ _ | refine blk_drew ?_ | refine blk_alloc ?_ _)); exact BK239.out) hb); have n26_ := Aside0.mk (blk_below (g := gb312) (o := .cells #[.int .i64 t289, .int .i64 t290, .int .i64 t291, .slice Ao53 t292.length co53, .slice Ao54 t295.length co54, .int .i64 t298, .int .i64 t299, .slice Ao55 t300.length co55, .slice Ao56 t303.length co56, .slice Ao57 t306.length co57, .slice Ao58 t309.length co58] 68 (0, 0)) (by (with_reducible repeat (first | refine blk_drewN ?_ _ | refine blk_drew ?_ | refine blk_alloc ?_ _)); refine blk_put (cs := #[.int .i64 t289, .int .i64 t290, .int .i64 t291, .slice Ao53 t292.length co53, .slice Ao54 t295.length co54, .int .i64 t298, .int .i64 t299, .slice Ao55 t300.length co55, .slice Ao56 t303.length co56, .slice Ao57 t306.length co57, .slice none 0 0]) ?_ 10 _ rfl; (with_reducible repeat (first | refine blk_drewN ?_ _ | refine blk_drew ?_ | refine blk_alloc ?_ _)); refine blk_put (cs := #[.int .i64 t289, .int .i64 t290, .int .i64 t291, .slice Ao53 t292.length co53, .slice Ao54 t295.length co54, .int .i64 t298, .int .i64 t299, .slice Ao55 t300.length co55, .slice Ao56 t303.length co56, .slice none 0 0, .slice none 0 0]) ?_ 9 _ rfl; (with_reducible repeat (first | refine blk_drewN ?_ _ | refine blk_drew ?_ | refine blk_alloc ?_ _)); refine blk_put (cs := #[.int .i64 t289, .int .i64 t290, .int .i64 t291, .slice Ao53 t292.length co53, .slice Ao54 t295.length co54, .int .i64 t298, .int .i64 t299, .slice Ao55 t300.length co55, .slice none 0 0, .slice none 0 0, .slice none 0 0]) ?_ 8 _ rfl; (with_reducible repeat (first | refine blk_drewN ?_ _ | refine blk_drew ?_ | refine blk_alloc ?_ _)); refine blk_put (cs := #[.int .i64 t289, .int .i64 t290, .int .i64 t291, .slice Ao53 t292.length co53, .slice Ao54 t295.length co54, .int .i64 t298, .int .i64 t299, .slice none 0 0, .slice none 0 0, .slice none 0 0, .slice none 0 0]) ?_ 7 _ rfl; (with_reducible repeat (first | refine blk_drewN ?_ _ | refine blk_drew ?_ | refine blk_alloc ?_ _)); refine blk_put (cs := #[.int .i64 t289, .int .i64 t290, .int .i64 t291, .slice Ao53 t292.length co53, .slice Ao54 t295.length co54, .int .i64 t298, .int .i64 0, .slice none 0 0, .slice none 0 0, .slice none 0 0, .slice none 0 0]) ?_ 6 _ rfl; (with_reducible repeat (first | refine blk_drewN ?_ _ | refine blk_drew ?_ | refine blk_alloc ?_ _)); refine blk_put (cs := #[.int .i64 t289, .int .i64 t290, .int .i64 t291, .slice Ao53 t292.length co53, .slice Ao54 t295.length co54, .int .i64 0, .int .i64 0, .slice none 0 0, .slice none 0 0, .slice none 0 0, .slice none 0 0]) ?_ 5 _ rfl; (with_reducible repeat (first | refine blk_drewN ?_ _ | refine blk_drew ?_ | refine blk_alloc ?_ _)); refine blk_put (cs := #[.int .i64 t289, .int .i64 t290, .int .i64 t291, .slice Ao53 t292.length co53, .slice none 0 0, .int .i64 0, .int .i64 0, .slice none 0 0, .slice none 0 0, .slice none 0 0, .slice none 0 0]) ?_ 4 _ rfl; (with_reducible repeat (first | refine blk_drewN ?_ _ | refine blk_drew ?_ | refine blk_alloc ?_ _)); refine blk_put (cs := #[.int .i64 t289, .int .i64 t290, .int .i64 t291, .slice none 0 0, .slice none 0 0, .int .i64 0, .int .i64 0, .slice none 0 0, .slice none 0 0, .slice none 0 0, .slice none 0 0]) ?_ 3 _ rfl; (with_reducible repeat (first | refine blk_drewN ?_ _ | refine blk_drew ?_ | refine blk_alloc ?_ _)); refine blk_put (cs := #[.int .i64 t289, .int .i64 t290, .int .i64 0, .slice none 0 0, .slice none 0 0, .int .i64 0, .int .i64 0, .slice none 0 0, .slice none 0 0, .slice none 0 0, .slice none 0 0]) ?_ 2 _ rfl; (with_reducible repeat (first | refine blk_drewN ?_ _ | refine blk_drew ?_ | refine blk_alloc ?_ _)); refine blk_put (cs := #[.int .i64 t289, .int .i64 0, .int .i64 0, .slice none 0 0, .slice none 0 0, .int .i64 0, .int .i64 0, .slice none 0 0, .slice none 0 0, .slice none 0 0, .slice none 0 0]) ?_ 1 _ rfl; (with_reducible repeat (first | refine blk_drewN ?_ _ | refine blk_drew ?_ | refine blk_alloc ?_ _)); refine blk_put (cs := #[.int .i64 0, .int .i64 0, .int .i64 0, .slice none 0 0, .slice none 0 0, .int .i64 0, .int .i64 0, .slice none 0 0, .slice none 0 0, .slice none 0 0, .slice none 0 0]) ?_ 0 _ rfl; (with_reducible repeat (first | refine blk_drewN ?_ _ | refine blk_drew ?_ | refine blk_alloc ?_ _)); exact BK312.out) hb); have n27_ := Aside0.mk (below_step (by repeat (first | (with_reducible first | exact HB.out | apply below_alloc | apply pw_below_drewN | apply below_drew1 | refine below_set ?_ GE238.out | refine below_set ?_ GE239.out | refine below_set ?_ GE312.out) | exact HB.out)) hb); clear HO247; clear HO250; clear HO255; clear HO258; clear HO261; clear HO264; clear HO270; clear HO273; clear HO278; clear HO281; clear HO284; clear HO287; clear HO294; clear HO297; clear HO302; clear HO305; clear HO308; clear HO311; clear BK238; clear BK239; clear BK312; clear HB; have HO247 := n0_; have HO250 := n1_; have HO255 := n2_; have HO258 := n3_; have HO261 := n4_; have HO264 := n5_; have HO270 := n6_; have HO273 := n7_; have HO278 := n8_; have HO281 := n9_; have HO284 := n10_; have HO287 := n11_; have HO294 := n12_; have HO297 := n13_; have HO302 := n14_; have HO305 := n15_; have HO308 := n16_; have HO311 := n17_; have HO318 := n18_; have HO321 := n19_; have HO326 := n20_; have HO329 := n21_; have HO332 := n22_; have HO335 := n23_; have BK238 := n24_; have BK239 := n25_; have BK312 := n26_; have HB := n27_; clear n0_ n1_ n2_ n3_ n4_ n5_ n6_ n7_ n8_ n9_ n10_ n11_ n12_ n13_ n14_ n15_ n16_ n17_ n18_ n19_ n20_ n21_ n22_ n23_ n24_ n25_ n26_ n27_; (try clear hb); (try clear hb2); (try clear hk); (try clear hi); (try clear ho0); (try clear ho1); (try clear ho2); (try clear ho3); (try clear ho4); (try clear ho5)) | ((with_reducible refine gate_dst (N := 8) rfl ?_); refine box_event ?hg (N := 8) ?hd (cs := #[.int .i64 0, .int .i64 0, .int .i64 0, .slice none 0 0, .slice none 0 0, .int .i64 0, .int .i64 0, .slice none 0 0, .slice none 0 0, .slice none 0 0, .slice none 0 0]) (t := 68) ?hr ?_; (case hd => rfl); (case hg => rfl); (case hr => first | (go_simp; done) | (go_simp; rfl)); intro gb336 hg w61 hbox hb; have n0_ := Aside0.mk (Kd.R_below (Kd.R_mv HO247) hb); have n1_ := Aside0.mk (Kd.R_below (Kd.R_mv HO250) hb); have n2_ := Aside0.mk (Kd.R_below (Kd.R_mv HO255) hb); have n3_ := Aside0.mk (Kd.R_below (Kd.R_mv HO258) hb); have n4_ := Aside0.mk (Kd.S_below (Kd.S_mv HO261) hb); have n5_ := Aside0.mk (Kd.S_below (Kd.S_mv HO264) hb); have n6_ := Aside0.mk (Kd.R_below (Kd.R_mv HO270) hb); have n7_ := Aside0.mk (Kd.R_below (Kd.R_mv HO273) hb); have n8_ := Aside0.mk (Kd.R_below (Kd.R_mv HO278) hb); have n9_ := Aside0.mk (Kd.R_below (Kd.R_mv HO281) hb); have n10_ := Aside0.mk (Kd.S_below (Kd.S_mv HO284) hb); have n11_ := Aside0.mk (Kd.S_below (Kd.S_mv HO287) hb); have n12_ := Aside0.mk (Kd.R_below (Kd.R_mv HO294) hb); have n13_ := Aside0.mk (Kd.R_below (Kd.R_mv HO297) hb); have n14_ := Aside0.mk (Kd.R_below (Kd.R_mv HO302) hb); have n15_ := Aside0.mk (Kd.R_below (Kd.R_mv HO305) hb); have n16_ := Aside0.mk (Kd.S_below (Kd.S_mv HO308) hb); have n17_ := Aside0.mk (Kd.S_below (Kd.S_mv HO311) hb); have n18_ := Aside0.mk (Kd.R_below (Kd.R_mv HO318) hb); have n19_ := Aside0.mk (Kd.R_below (Kd.R_mv HO321) hb); have n20_ := Aside0.mk (Kd.R_below (Kd.R_mv HO326) hb); have n21_ := Aside0.mk (Kd.R_below (Kd.R_mv HO329) hb); have n22_ := Aside0.mk (Kd.S_below (Kd.S_mv HO332) hb); have n23_ := Aside0.mk (Kd.S_below (Kd.S_mv HO335) hb); have n24_ := Aside0.mk (blk_below (g := gb238) (o := .cells #[.int .i64 a0_0, .int .i64 a0_1, .int .i64 a0_2, .slice A0_3 l0_3.length c0_3, .slice A0_4 l0_4.length c0_4, .int .i64 a0_5, .int .i64 a0_6, .slice A0_7 l0_7.length c0_7, .slice A0_8 l0_8.length c0_8, .slice A0_9 l0_9.length c0_9, .slice A0_10 l0_10.length c0_10] 64 (0, 0)) (blk_mv BK238) hb); have n25_ := Aside0.mk (blk_below (g := gb239) (o := .cells #[.int .i64 a1_0, .int .i64 a1_1, .int .i64 a1_2, .slice A1_3 l1_3.length c1_3, .slice A1_4 l1_4.length c1_4, .int .i64 a1_5, .int .i64 a1_6, .slice A1_7 l1_7.length c1_7, .slice A1_8 l1_8.length c1_8, .slice A1_9 l1_9.length c1_9, .slice A1_10 l1_10.length c1_10] 64 (0, 0)) (blk_mv BK239) hb); have n26_ := Aside0.mk (blk_below (g := gb312) (o := .cells #[.int .i64 t289, .int .i64 t290, .int .i64 t291, .slice Ao53 t292.length co53, .slice Ao54 t295.length co54, .int .i64 t298, .int .i64 t299, .slice Ao55 t300.length co55, .slice Ao56 t303.length co56, .slice Ao57 t306.length co57, .slice Ao58 t309.length co58] 68 (0, 0)) (blk_mv BK312) hb); have n27_ := Aside0.mk (below_step (by repeat (first | (with_reducible first | exact HB.out | apply below_alloc | apply pw_below_drewN | apply below_drew1 | refine below_set ?_ GE238.out | refine below_set ?_ GE239.out | refine below_set ?_ GE312.out) | exact HB.out)) hb); have n28_ := Aside0.mk (hbox); have n29_ := Aside0.mk ((by rw [hg]; exact (below_size (by repeat (first | (with_reducible first | exact HB.out | apply below_alloc | apply pw_below_drewN | apply below_drew1 | refine below_set ?_ GE238.out | refine below_set ?_ GE239.out | refine below_set ?_ GE312.out) | exact HB.out))) : w.heap.size ≤ gb336)); have n30_ := Aside0.mk ((by rw [hg]; exact (below_size (by repeat (first | (with_reducible first | exact HB.out | apply below_alloc | apply pw_below_drewN | apply below_drew1 | refine below_set ?_ GE238.out | refine below_set ?_ GE239.out | refine below_set ?_ GE312.out) | exact HB.out))) : w.heap.size ≤ gb336)); have n31_ := Aside0.mk ((by rw [hg]; exact Nat.ne_of_lt (blk_lt (g := gb238) (o := .cells #[.int .i64 a0_0, .int .i64 a0_1, .int .i64 a0_2, .slice A0_3 l0_3.length c0_3, .slice A0_4 l0_4.length c0_4, .int .i64 a0_5, .int .i64 a0_6, .slice A0_7 l0_7.length c0_7, .slice A0_8 l0_8.length c0_8, .slice A0_9 l0_9.length c0_9, .slice A0_10 l0_10.length c0_10] 64 (0, 0)) (blk_mv BK238)) : gb238 ≠ gb336)); have n32_ := Aside0.mk ((by rw [hg]; exact Nat.ne_of_gt (blk_lt (g := gb238) (o := .cells #[.int .i64 a0_0, .int .i64 a0_1, .int .i64 a0_2, .slice A0_3 l0_3.length c0_3, .slice A0_4 l0_4.length c0_4, .int .i64 a0_5, .int .i64 a0_6, .slice A0_7 l0_7.length c0_7, .slice A0_8 l0_8.length c0_8, .slice A0_9 l0_9.length c0_9, .slice A0_10 l0_10.length c0_10] 64 (0, 0)) (blk_mv BK238)) : gb336 ≠ gb238)); have n33_ := Aside0.mk ((by rw [hg]; exact Nat.ne_of_lt (blk_lt (g := gb239) (o := .cells #[.int .i64 a1_0, .int .i64 a1_1, .int .i64 a1_2, .slice A1_3 l1_3.length c1_3, .slice A1_4 l1_4.length c1_4, .int .i64 a1_5, .int .i64 a1_6, .slice A1_7 l1_7.length c1_7, .slice A1_8 l1_8.length c1_8, .slice A1_9 l1_9.length c1_9, .slice A1_10 l1_10.length c1_10] 64 (0, 0)) (blk_mv BK239)) : gb239 ≠ gb336)); have n34_ := Aside0.mk ((by rw [hg]; exact Nat.ne_of_gt (blk_lt (g := gb239) (o := .cells #[.int .i64 a1_0, .int .i64 a1_1, .int .i64 a1_2, .slice A1_3 l1_3.length c1_3, .slice A1_4 l1_4.length c1_4, .int .i64 a1_5, .int .i64 a1_6, .slice A1_7 l1_7.length c1_7, .slice A1_8 l1_8.length c1_8, .slice A1_9 l1_9.length c1_9, .slice A1_10 l1_10.length c1_10] 64 (0, 0)) (blk_mv BK239)) : gb336 ≠ gb239)); have n35_ := Aside0.mk ((by rw [hg]; exact Nat.ne_of_lt (blk_lt (g := gb312) (o := .cells #[.int .i64 t289, .int .i64 t290, .int .i64 t291, .slice Ao53 t292.length co53, .slice Ao54 t295.length co54, .int .i64 t298, .int .i64 t299, .slice Ao55 t300.length co55, .slice Ao56 t303.length co56, .slice Ao57 t306.length co57, .slice Ao58 t309.length co58] 68 (0, 0)) (blk_mv BK312)) : gb312 ≠ gb336)); have n36_ := Aside0.mk ((by rw [hg]; exact Nat.ne_of_gt (blk_lt (g := gb312) (o := .cells #[.int .i64 t289, .int .i64 t290, .int .i64 t291, .slice Ao53 t292.length co53, .slice Ao54 t295.length co54, .int .i64 t298, .int .i64 t299, .slice Ao55 t300.length co55, .slice Ao56 t303.length co56, .slice Ao57 t306.length co57, .slice Ao58 t309.length co58] 68 (0, 0)) (blk_mv BK312)) : gb336 ≠ gb312)); clear HO247; clear HO250; clear HO255; clear HO258; clear HO261; clear HO264; clear HO270; clear HO273; clear HO278; clear HO281; clear HO284; clear HO287; clear HO294; clear HO297; clear HO302; clear HO305; clear HO308; clear HO311; clear HO318; clear HO321; clear HO326; clear HO329; clear HO332; clear HO335; clear BK238; clear BK239; clear BK312; clear HB; have HO247 := n0_; have HO250 := n1_; have HO255 := n2_; have HO258 := n3_; have HO261 := n4_; have HO264 := n5_; have HO270 := n6_; have HO273 := n7_; have HO278 := n8_; have HO281 := n9_; have HO284 := n10_; have HO287 := n11_; have HO294 := n12_; have HO297 := n13_; have HO302 := n14_; have HO305 := n15_; have HO308 := n16_; have HO311 := n17_; have HO318 := n18_; have HO321 := n19_; have HO326 := n20_; have HO329 := n21_; have HO332 := n22_; have HO335 := n23_; have BK238 := n24_; have BK239 := n25_; have BK312 := n26_; have HB := n27_; have BK336 := n28_; have GW336 := n29_; have GE336 := n30_; have NB238_336 := n31_; have NB336_238 := n32_; have NB239_336 := n33_; have NB336_239 := n34_; have NB312_336 := n35_; have NB336_312 := n36_; clear n0_ n1_ n2_ n3_ n4_ n5_ n6_ n7_ n8_ n9_ n10_ n11_ n12_ n13_ n14_ n15_ n16_ n17_ n18_ n19_ n20_ n21_ n22_ n23_ n24_ n25_ n26_ n27_ n28_ n29_ n30_ n31_ n32_ n33_ n34_ n35_ n36_; clear hb hbox hg; have hnb62 := NB336_238.out; have hnc62 := NB238_336.out; have hnb63 := NB336_239.out; have hnc63 := NB239_336.out; have hnb64 := NB336_312.out; have hnc64 := NB312_336.out; have hcz65_0 : w61.cell? ⟨gb336, 0, none⟩ = some (.int .i64 0) := (blk_cell BK336.out 0).trans rfl; have hcz65_1 : w61.cell? ⟨gb336, 1, none⟩ = some (.int .i64 0) := (blk_cell BK336.out 1).trans rfl; have hcz65_2 : w61.cell? ⟨gb336, 2, none⟩ = some (.int .i64 0) := (blk_cell BK336.out 2).trans rfl; have hcz65_3 : w61.cell? ⟨gb336, 3, none⟩ = some (.slice none 0 0) := (blk_cell BK336.out 3).trans rfl; have hcz65_4 : w61.cell? ⟨gb336, 4, none⟩ = some (.slice none 0 0) := (blk_cell BK336.out 4).trans rfl; have hcz65_5 : w61.cell? ⟨gb336, 5, none⟩ = some (.int .i64 0) := (blk_cell BK336.out 5).trans rfl; have hcz65_6 : w61.cell? ⟨gb336, 6, none⟩ = some (.int .i64 0) := (blk_cell BK336.out 6).trans rfl; have hcz65_7 : w61.cell? ⟨gb336, 7, none⟩ = some (.slice none 0 0) := (blk_cell BK336.out 7).trans rfl; have hcz65_8 : w61.cell? ⟨gb336, 8, none⟩ = some (.slice none 0 0) := (blk_cell BK336.out 8).trans rfl; have hcz65_9 : w61.cell? ⟨gb336, 9, none⟩ = some (.slice none 0 0) := (blk_cell BK336.out 9).trans rfl; have hcz65_10 : w61.cell? ⟨gb336, 10, none⟩ = some (.slice none 0 0) := (blk_cell BK336.out 10).trans rfl; have hfz65_0 := blk_frozen BK336.out 0; have hfz65_1 := blk_frozen BK336.out 1; have hfz65_2 := blk_frozen BK336.out 2; have hfz65_3 := blk_frozen BK336.out 3; have hfz65_4 := blk_frozen BK336.out 4; have hfz65_5 := blk_frozen BK336.out 5; have hfz65_6 := blk_frozen BK336.out 6; have hfz65_7 := blk_frozen BK336.out 7; have hfz65_8 := blk_frozen BK336.out 8; have hfz65_9 := blk_frozen BK336.out 9; have hfz65_10 := blk_frozen BK336.out 10; obtain ⟨Ao66, co66, eo66⟩ := Kd.R_slice HO318.out; subst eo66; obtain ⟨Ao67, co67, eo67⟩ := Kd.R_slice HO321.out; subst eo67; obtain ⟨Ao68, co68, eo68⟩ := Kd.R_slice HO326.out; subst eo68; obtain ⟨Ao69, co69, eo69⟩ := Kd.R_slice HO329.out; subst eo69; obtain ⟨Ao70, co70, eo70⟩ := Kd.S_slice HO332.out; subst eo70; obtain ⟨Ao71, co71, eo71⟩ := Kd.S_slice HO335.out; subst eo71; have hcz72_0 : w61.cell? ⟨gb312, 0, none⟩ = some (.int .i64 t289) := (blk_cell BK312.out 0).trans rfl; have hcz72_1 : w61.cell? ⟨gb312, 1, none⟩ = some (.int .i64 t290) := (blk_cell BK312.out 1).trans rfl; have hcz72_2 : w61.cell? ⟨gb312, 2, none⟩ = some (.int .i64 t291) := (blk_cell BK312.out 2).trans rfl; have hcz72_3 : w61.cell? ⟨gb312, 3, none⟩ = some (.slice Ao53 t292.length co53) := (blk_cell BK312.out 3).trans rfl; have hcz72_4 : w61.cell? ⟨gb312, 4, none⟩ = some (.slice Ao54 t295.length co54) := (blk_cell BK312.out 4).trans rfl; have hcz72_5 : w61.cell? ⟨gb312, 5, none⟩ = some (.int .i64 t298) := (blk_cell BK312.out 5).trans rfl; have hcz72_6 : w61.cell? ⟨gb312, 6, none⟩ = some (.int .i64 t299) := (blk_cell BK312.out 6).trans rfl; have hcz72_7 : w61.cell? ⟨gb312, 7, none⟩ = some (.slice Ao55 t300.length co55) := (blk_cell BK312.out 7).trans rfl; have hcz72_8 : w61.cell? ⟨gb312, 8, none⟩ = some (.slice Ao56 t303.length co56) := (blk_cell BK312.out 8).trans rfl; have hcz72_9 : w61.cell? ⟨gb312, 9, none⟩ = some (.slice Ao57 t306.length co57) := (blk_cell BK312.out 9).trans rfl; have hcz72_10 : w61.cell? ⟨gb312, 10, none⟩ = some (.slice Ao58 t309.length co58) := (blk_cell BK312.out 10).trans rfl; have hfz72_0 := blk_frozen BK312.out 0; have hfz72_1 := blk_frozen BK312.out 1; have hfz72_2 := blk_frozen BK312.out 2; have hfz72_3 := blk_frozen BK312.out 3; have hfz72_4 := blk_frozen BK312.out 4; have hfz72_5 := blk_frozen BK312.out 5; have hfz72_6 := blk_frozen BK312.out 6; have hfz72_7 := blk_frozen BK312.out 7; have hfz72_8 := blk_frozen BK312.out 8; have hfz72_9 := blk_frozen BK312.out 9; have hfz72_10 := blk_frozen BK312.out 10) | ((with_reducible refine gate_callee (f := 39) rfl ?_); refine goesL_ (some 31) rfl rfl Try.func39 (by kernel_rfl) rfl #[.agg #[.int .i64 t289, .int .i64 t290, .int .i64 t291, .slice Ao53 t292.length co53, .slice Ao54 t295.length co54, .int .i64 t298, .int .i64 t299, .slice Ao55 t300.length co55, .slice Ao56 t303.length co56, .slice Ao57 t306.length co57, .slice Ao58 t309.length co58], .agg #[.int .i64 t313, .int .i64 t314, .int .i64 t315, .slice Ao66 t316.length co66, .slice Ao67 t319.length co67, .int .i64 t322, .int .i64 t323, .slice Ao68 t324.length co68, .slice Ao69 t327.length co69, .slice Ao70 t330.length co70, .slice Ao71 t333.length co71]] rfl (by (try simp only [List.map_toArray, List.map_cons, List.map_nil]); first | done | rfl | (simp only [List.length_drop, List.length_take]; rfl)) ?_; (with_reducible refine (impl_BlockSame.calls k t289 t290 t291 _ _ t292 _ _ t295 t298 t299 _ _ t300 _ _ t303 _ _ t306 _ _ t309 t313 t314 t315 _ _ t316 _ _ t319 t322 t323 _ _ t324 _ _ t327 _ _ t330 _ _ t333 t337 _ ?side1 ?side2 ?side3 ?side4 ?side5 ?side6 ?side7 ?side8 ?side9 ?side10 ?side11 ?side12 ?side13 ?side14 ?side15 ?side16 ?side17 ?side18 ?side19 ?side20 ?side21 ?side22 ?side23 ?side24 A22.out).mono ?_); (case side1 => refine (Kd.R_reads' (e := 5) (base := w.heap.size) (ok := fun k_ => (((((((((((((some k_ ≠ (.slice Ao54 t295.length co54 : Value).ownBlock ∧ (some k_ ≠ (.slice Ao55 t300.length co55 : Value).ownBlock ∧ some k_ ≠ (.slice Ao56 t303.length co56 : Value).ownBlock)) ∧ some k_ ≠ (.slice Ao33 t245.length co33 : Value).ownBlock) ∧ some k_ ≠ (.slice Ao34 t248.length co34 : Value).ownBlock) ∧ some k_ ≠ (.slice Ao35 t253.length co35 : Value).ownBlock) ∧ some k_ ≠ (.slice Ao36 t256.length co36 : Value).ownBlock) ∧ some k_ ≠ (.slice Ao39 t268.length co39 : Value).ownBlock) ∧ some k_ ≠ (.slice Ao40 t271.length co40 : Value).ownBlock) ∧ some k_ ≠ (.slice Ao41 t276.length co41 : Value).ownBlock) ∧ some k_ ≠ (.slice Ao42 t279.length co42 : Value).ownBlock) ∧ some k_ ≠ (.slice Ao66 t316.length co66 : Value).ownBlock) ∧ some k_ ≠ (.slice Ao67 t319.length co67 : Value).ownBlock) ∧ some k_ ≠ (.slice Ao68 t324.length co68 : Value).ownBlock) ∧ some k_ ≠ (.slice Ao69 t327.length co69 : Value).ownBlock)) (n := t292.length) (c := co53) ?_).2.2; exact (by (with_reducible repeat (first | apply Kd.R_alloc | apply Kd.R_drewN | apply Kd.R_drew)); exact (Kd.R_mono (Kd.R_fars (Kd.R_types HO294.out BK336.out (by decide)) (fun _ hk => hk.2)) (fun _ h_ => h_.1)))); (case side2 => exact (Kd.R_reads' HO294.out).2.1); (case side3 => refine (Kd.R_reads' (e := 5) (base := w.heap.size) (ok := fun k_ => (((((((((((((some k_ ≠ (.slice Ao53 t292.length co53 : Value).ownBlock ∧ (some k_ ≠ (.slice Ao55 t300.length co55 : Value).ownBlock ∧ some k_ ≠ (.slice Ao56 t303.length co56 : Value).ownBlock)) ∧ some k_ ≠ (.slice Ao33 t245.length co33 : Value).ownBlock) ∧ some k_ ≠ (.slice Ao34 t248.length co34 : Value).ownBlock) ∧ some k_ ≠ (.slice Ao35 t253.length co35 : Value).ownBlock) ∧ some k_ ≠ (.slice Ao36 t256.length co36 : Value).ownBlock) ∧ some k_ ≠ (.slice Ao39 t268.length co39 : Value).ownBlock) ∧ some k_ ≠ (.slice Ao40 t271.length co40 : Value).ownBlock) ∧ some k_ ≠ (.slice Ao41 t276.length co41 : Value).ownBlock) ∧ some k_ ≠ (.slice Ao42 t279.length co42 : Value).ownBlock) ∧ some k_ ≠ (.slice Ao66 t316.length co66 : Value).ownBlock) ∧ some k_ ≠ (.slice Ao67 t319.length co67 : Value).ownBlock) ∧ some k_ ≠ (.slice Ao68 t324.length co68 : Value).ownBlock) ∧ some k_ ≠ (.slice Ao69 t327.length co69 : Value).ownBlock)) (n := t295.length) (c := co54) ?_).2.2; exact (by (with_reducible repeat (first | apply Kd.R_alloc | apply Kd.R_drewN | apply Kd.R_drew)); exact (Kd.R_mono (Kd.R_fars (Kd.R_types HO297.out BK336.out (by decide)) (fun _ hk => hk.2)) (fun _ h_ => h_.1)))); (case side4 => exact (Kd.R_reads' HO297.out).2.1); (case side5 => refine (Kd.R_reads' (e := 5) (base := w.heap.size) (ok := fun k_ => (((((((((((((some k_ ≠ (.slice Ao53 t292.length co53 : Value).ownBlock ∧ (some k_ ≠ (.slice Ao54 t295.length co54 : Value).ownBlock ∧ some k_ ≠ (.slice Ao56 t303.length co56 : Value).ownBlock)) ∧ some k_ ≠ (.slice Ao33 t245.length co33 : Value).ownBlock) ∧ some k_ ≠ (.slice Ao34 t248.length co34 : Value).ownBlock) ∧ some k_ ≠ (.slice Ao35 t253.length co35 : Value).ownBlock) ∧ some k_ ≠ (.slice Ao36 t256.length co36 : Value).ownBlock) ∧ some k_ ≠ (.slice Ao39 t268.length co39 : Value).ownBlock) ∧ some k_ ≠ (.slice Ao40 t271.length co40 : Value).ownBlock) ∧ some k_ ≠ (.slice Ao41 t276.length co41 : Value).ownBlock) ∧ some k_ ≠ (.slice Ao42 t279.length co42 : Value).ownBlock) ∧ some k_ ≠ (.slice Ao66 t316.length co66 : Value).ownBlock) ∧ some k_ ≠ (.slice Ao67 t319.length co67 : Value).ownBlock) ∧ some k_ ≠ (.slice Ao68 t324.length co68 : Value).ownBlock) ∧ some k_ ≠ (.slice Ao69 t327.length co69 : Value).ownBlock)) (n := t300.length) (c := co55) ?_).2.2; exact (by (with_reducible repeat (first | apply Kd.R_alloc | apply Kd.R_drewN | apply Kd.R_drew)); exact (Kd.R_mono (Kd.R_fars (Kd.R_types HO302.out BK336.out (by decide)) (fun _ hk => hk.2)) (fun _ h_ => h_.1)))); (case side6 => exact (Kd.R_reads' HO302.out).2.1); (case side7 => refine (Kd.R_reads' (e := 5) (base := w.heap.size) (ok := fun k_ => (((((((((((((some k_ ≠ (.slice Ao53 t292.length co53 : Value).ownBlock ∧ (some k_ ≠ (.slice Ao54 t295.length co54 : Value).ownBlock ∧ some k_ ≠ (.slice Ao55 t300.length co55 : Value).ownBlock)) ∧ some k_ ≠ (.slice Ao33 t245.length co33 : Value).ownBlock) ∧ some k_ ≠ (.slice Ao34 t248.length co34 : Value).ownBlock) ∧ some k_ ≠ (.slice Ao35 t253.length co35 : Value).ownBlock) ∧ some k_ ≠ (.slice Ao36 t256.length co36 : Value).ownBlock) ∧ some k_ ≠ (.slice Ao39 t268.length co39 : Value).ownBlock) ∧ some k_ ≠ (.slice Ao40 t271.length co40 : Value).ownBlock) ∧ some k_ ≠ (.slice Ao41 t276.length co41 : Value).ownBlock) ∧ some k_ ≠ (.slice Ao42 t279.length co42 : Value).ownBlock) ∧ some k_ ≠ (.slice Ao66 t316.length co66 : Value).ownBlock) ∧ some k_ ≠ (.slice Ao67 t319.length co67 : Value).ownBlock) ∧ some k_ ≠ (.slice Ao68 t324.length co68 : Value).ownBlock) ∧ some k_ ≠ (.slice Ao69 t327.length co69 : Value).ownBlock)) (n := t303.length) (c := co56) ?_).2.2; exact (by (with_reducible repeat (first | apply Kd.R_alloc | apply Kd.R_drewN | apply Kd.R_drew)); exact (Kd.R_mono (Kd.R_fars (Kd.R_types HO305.out BK336.out (by decide)) (fun _ hk => hk.2)) (fun _ h_ => h_.1)))); (case side8 => exact (Kd.R_reads' HO305.out).2.1); (case side9 => refine (Kd.S_reads' (e := 37) (base := w.heap.size) (ok := fun k_ => (((((((((((((((((((some k_ ≠ (.slice Ao53 t292.length co53 : Value).ownBlock ∧ (some k_ ≠ (.slice Ao54 t295.length co54 : Value).ownBlock ∧ (some k_ ≠ (.slice Ao55 t300.length co55 : Value).ownBlock ∧ (some k_ ≠ (.slice Ao56 t303.length co56 : Value).ownBlock ∧ some k_ ≠ (.slice Ao58 t309.length co58 : Value).ownBlock)))) ∧ some k_ ≠ (.slice Ao33 t245.length co33 : Value).ownBlock) ∧ some k_ ≠ (.slice Ao34 t248.length co34 : Value).ownBlock) ∧ some k_ ≠ (.slice Ao35 t253.length co35 : Value).ownBlock) ∧ some k_ ≠ (.slice Ao36 t256.length co36 : Value).ownBlock) ∧ some k_ ≠ (.slice Ao37 t259.length co37 : Value).ownBlock) ∧ some k_ ≠ (.slice Ao38 t262.length co38 : Value).ownBlock) ∧ some k_ ≠ (.slice Ao39 t268.length co39 : Value).ownBlock) ∧ some k_ ≠ (.slice Ao40 t271.length co40 : Value).ownBlock) ∧ some k_ ≠ (.slice Ao41 t276.length co41 : Value).ownBlock) ∧ some k_ ≠ (.slice Ao42 t279.length co42 : Value).ownBlock) ∧ some k_ ≠ (.slice Ao43 t282.length co43 : Value).ownBlock) ∧ some k_ ≠ (.slice Ao44 t285.length co44 : Value).ownBlock) ∧ some k_ ≠ (.slice Ao66 t316.length co66 : Value).ownBlock) ∧ some k_ ≠ (.slice Ao67 t319.length co67 : Value).ownBlock) ∧ some k_ ≠ (.slice Ao68 t324.length co68 : Value).ownBlock) ∧ some k_ ≠ (.slice Ao69 t327.length co69 : Value).ownBlock) ∧ some k_ ≠ (.slice Ao70 t330.length co70 : Value).ownBlock) ∧ some k_ ≠ (.slice Ao71 t333.length co71 : Value).ownBlock)) (n := t306.length) (c := co57) ?_).2.2; exact (by (with_reducible repeat (first | apply Kd.S_alloc | apply Kd.S_drewN | apply Kd.S_drew)); exact (Kd.S_mono (Kd.S_fars (Kd.S_types HO308.out BK336.out (by decide)) (fun _ hk => hk.2)) (fun _ h_ => h_.1)))); (case side10 => exact (Kd.S_reads' HO308.out).2.1); (case side11 => refine (Kd.S_reads' (e := 37) (base := w.heap.size) (ok := fun k_ => (((((((((((((((((((some k_ ≠ (.slice Ao53 t292.length co53 : Value).ownBlock ∧ (some k_ ≠ (.slice Ao54 t295.length co54 : Value).ownBlock ∧ (some k_ ≠ (.slice Ao55 t300.length co55 : Value).ownBlock ∧ (some k_ ≠ (.slice Ao56 t303.length co56 : Value).ownBlock ∧ some k_ ≠ (.slice Ao57 t306.length co57 : Value).ownBlock)))) ∧ some k_ ≠ (.slice Ao33 t245.length co33 : Value).ownBlock) ∧ some k_ ≠ (.slice Ao34 t248.length co34 : Value).ownBlock) ∧ some k_ ≠ (.slice Ao35 t253.length co35 : Value).ownBlock) ∧ some k_ ≠ (.slice Ao36 t256.length co36 : Value).ownBlock) ∧ some k_ ≠ (.slice Ao37 t259.length co37 : Value).ownBlock) ∧ some k_ ≠ (.slice Ao38 t262.length co38 : Value).ownBlock) ∧ some k_ ≠ (.slice Ao39 t268.length co39 : Value).ownBlock) ∧ some k_ ≠ (.slice Ao40 t271.length co40 : Value).ownBlock) ∧ some k_ ≠ (.slice Ao41 t276.length co41 : Value).ownBlock) ∧ some k_ ≠ (.slice Ao42 t279.length co42 : Value).ownBlock) ∧ some k_ ≠ (.slice Ao43 t282.length co43 : Value).ownBlock) ∧ some k_ ≠ (.slice Ao44 t285.length co44 : Value).ownBlock) ∧ some k_ ≠ (.slice Ao66 t316.length co66 : Value).ownBlock) ∧ some k_ ≠ (.slice Ao67 t319.length co67 : Value).ownBlock) ∧ some k_ ≠ (.slice Ao68 t324.length co68 : Value).ownBlock) ∧ some k_ ≠ (.slice Ao69 t327.length co69 : Value).ownBlock) ∧ some k_ ≠ (.slice Ao70 t330.length co70 : Value).ownBlock) ∧ some k_ ≠ (.slice Ao71 t333.length co71 : Value).ownBlock)) (n := t309.length) (c := co58) ?_).2.2; exact (by (with_reducible repeat (first | apply Kd.S_alloc | apply Kd.S_drewN | apply Kd.S_drew)); exact (Kd.S_mono (Kd.S_fars (Kd.S_types HO311.out BK336.out (by decide)) (fun _ hk => hk.2)) (fun _ h_ => h_.1)))); (case side12 => exact (Kd.S_reads' HO311.out).2.1); (case side13 => refine (Kd.R_reads' (e := 5) (base := w.heap.size) (ok := fun k_ => (((((((((((((some k_ ≠ (.slice Ao67 t319.length co67 : Value).ownBlock ∧ (some k_ ≠ (.slice Ao68 t324.length co68 : Value).ownBlock ∧ some k_ ≠ (.slice Ao69 t327.length co69 : Value).ownBlock)) ∧ some k_ ≠ (.slice Ao33 t245.length co33 : Value).ownBlock) ∧ some k_ ≠ (.slice Ao34 t248.length co34 : Value).ownBlock) ∧ some k_ ≠ (.slice Ao35 t253.length co35 : Value).ownBlock) ∧ some k_ ≠ (.slice Ao36 t256.length co36 : Value).ownBlock) ∧ some k_ ≠ (.slice Ao39 t268.length co39 : Value).ownBlock) ∧ some k_ ≠ (.slice Ao40 t271.length co40 : Value).ownBlock) ∧ some k_ ≠ (.slice Ao41 t276.length co41 : Value).ownBlock) ∧ some k_ ≠ (.slice Ao42 t279.length co42 : Value).ownBlock) ∧ some k_ ≠ (.slice Ao53 t292.length co53 : Value).ownBlock) ∧ some k_ ≠ (.slice Ao54 t295.length co54 : Value).ownBlock) ∧ some k_ ≠ (.slice Ao55 t300.length co55 : Value).ownBlock) ∧ some k_ ≠ (.slice Ao56 t303.length co56 : Value).ownBlock)) (n := t316.length) (c := co66) ?_).2.2; exact (by (with_reducible repeat (first | apply Kd.R_alloc | apply Kd.R_drewN | apply Kd.R_drew)); exact (Kd.R_mono (Kd.R_fars (Kd.R_types HO318.out BK336.out (by decide)) (fun _ hk => hk.2)) (fun _ h_ => h_.1)))); (case side14 => exact (Kd.R_reads' HO318.out).2.1); (case side15 => refine (Kd.R_reads' (e := 5) (base := w.heap.size) (ok := fun k_ => (((((((((((((some k_ ≠ (.slice Ao66 t316.length co66 : Value).ownBlock ∧ (some k_ ≠ (.slice Ao68 t324.length co68 : Value).ownBlock ∧ some k_ ≠ (.slice Ao69 t327.length co69 : Value).ownBlock)) ∧ some k_ ≠ (.slice Ao33 t245.length co33 : Value).ownBlock) ∧ some k_ ≠ (.slice Ao34 t248.length co34 : Value).ownBlock) ∧ some k_ ≠ (.slice Ao35 t253.length co35 : Value).ownBlock) ∧ some k_ ≠ (.slice Ao36 t256.length co36 : Value).ownBlock) ∧ some k_ ≠ (.slice Ao39 t268.length co39 : Value).ownBlock) ∧ some k_ ≠ (.slice Ao40 t271.length co40 : Value).ownBlock) ∧ some k_ ≠ (.slice Ao41 t276.length co41 : Value).ownBlock) ∧ some k_ ≠ (.slice Ao42 t279.length co42 : Value).ownBlock) ∧ some k_ ≠ (.slice Ao53 t292.length co53 : Value).ownBlock) ∧ some k_ ≠ (.slice Ao54 t295.length co54 : Value).ownBlock) ∧ some k_ ≠ (.slice Ao55 t300.length co55 : Value).ownBlock) ∧ some k_ ≠ (.slice Ao56 t303.length co56 : Value).ownBlock)) (n := t319.length) (c := co67) ?_).2.2; exact (by (with_reducible repeat (first | apply Kd.R_alloc | apply Kd.R_drewN | apply Kd.R_drew)); exact (Kd.R_mono (Kd.R_fars (Kd.R_types HO321.out BK336.out (by decide)) (fun _ hk => hk.2)) (fun _ h_ => h_.1)))); (case side16 => exact (Kd.R_reads' HO321.out).2.1); (case side17 => refine (Kd.R_reads' (e := 5) (base := w.heap.size) (ok := fun k_ => (((((((((((((some k_ ≠ (.slice Ao66 t316.length co66 : Value).ownBlock ∧ (some k_ ≠ (.slice Ao67 t319.length co67 : Value).ownBlock ∧ some k_ ≠ (.slice Ao69 t327.length co69 : Value).ownBlock)) ∧ some k_ ≠ (.slice Ao33 t245.length co33 : Value).ownBlock) ∧ some k_ ≠ (.slice Ao34 t248.length co34 : Value).ownBlock) ∧ some k_ ≠ (.slice Ao35 t253.length co35 : Value).ownBlock) ∧ some k_ ≠ (.slice Ao36 t256.length co36 : Value).ownBlock) ∧ some k_ ≠ (.slice Ao39 t268.length co39 : Value).ownBlock) ∧ some k_ ≠ (.slice Ao40 t271.length co40 : Value).ownBlock) ∧ some k_ ≠ (.slice Ao41 t276.length co41 : Value).ownBlock) ∧ some k_ ≠ (.slice Ao42 t279.length co42 : Value).ownBlock) ∧ some k_ ≠ (.slice Ao53 t292.length co53 : Value).ownBlock) ∧ some k_ ≠ (.slice Ao54 t295.length co54 : Value).ownBlock) ∧ some k_ ≠ (.slice Ao55 t300.length co55 : Value).ownBlock) ∧ some k_ ≠ (.slice Ao56 t303.length co56 : Value).ownBlock)) (n := t324.length) (c := co68) ?_).2.2; exact (by (with_reducible repeat (first | apply Kd.R_alloc | apply Kd.R_drewN | apply Kd.R_drew)); exact (Kd.R_mono (Kd.R_fars (Kd.R_types HO326.out BK336.out (by decide)) (fun _ hk => hk.2)) (fun _ h_ => h_.1)))); (case side18 => exact (Kd.R_reads' HO326.out).2.1); (case side19 => refine (Kd.R_reads' (e := 5) (base := w.heap.size) (ok := fun k_ => (((((((((((((some k_ ≠ (.slice Ao66 t316.length co66 : Value).ownBlock ∧ (some k_ ≠ (.slice Ao67 t319.length co67 : Value).ownBlock ∧ some k_ ≠ (.slice Ao68 t324.length co68 : Value).ownBlock)) ∧ some k_ ≠ (.slice Ao33 t245.length co33 : Value).ownBlock) ∧ some k_ ≠ (.slice Ao34 t248.length co34 : Value).ownBlock) ∧ some k_ ≠ (.slice Ao35 t253.length co35 : Value).ownBlock) ∧ some k_ ≠ (.slice Ao36 t256.length co36 : Value).ownBlock) ∧ some k_ ≠ (.slice Ao39 t268.length co39 : Value).ownBlock) ∧ some k_ ≠ (.slice Ao40 t271.length co40 : Value).ownBlock) ∧ some k_ ≠ (.slice Ao41 t276.length co41 : Value).ownBlock) ∧ some k_ ≠ (.slice Ao42 t279.length co42 : Value).ownBlock) ∧ some k_ ≠ (.slice Ao53 t292.length co53 : Value).ownBlock) ∧ some k_ ≠ (.slice Ao54 t295.length co54 : Value).ownBlock) ∧ some k_ ≠ (.slice Ao55 t300.length co55 : Value).ownBlock) ∧ some k_ ≠ (.slice Ao56 t303.length co56 : Value).ownBlock)) (n := t327.length) (c := co69) ?_).2.2; exact (by (with_reducible repeat (first | apply Kd.R_alloc | apply Kd.R_drewN | apply Kd.R_drew)); exact (Kd.R_mono (Kd.R_fars (Kd.R_types HO329.out BK336.out (by decide)) (fun _ hk => hk.2)) (fun _ h_ => h_.1)))); (case side20 => exact (Kd.R_reads' HO329.out).2.1); (case side21 => refine (Kd.S_reads' (e := 37) (base := w.heap.size) (ok := fun k_ => (((((((((((((((((((some k_ ≠ (.slice Ao66 t316.length co66 : Value).ownBlock ∧ (some k_ ≠ (.slice Ao67 t319.length co67 : Value).ownBlock ∧ (some k_ ≠ (.slice Ao68 t324.length co68 : Value).ownBlock ∧ (some k_ ≠ (.slice Ao69 t327.length co69 : Value).ownBlock ∧ some k_ ≠ (.slice Ao71 t333.length co71 : Value).ownBlock)))) ∧ some k_ ≠ (.slice Ao33 t245.length co33 : Value).ownBlock) ∧ some k_ ≠ (.slice Ao34 t248.length co34 : Value).ownBlock) ∧ some k_ ≠ (.slice Ao35 t253.length co35 : Value).ownBlock) ∧ some k_ ≠ (.slice Ao36 t256.length co36 : Value).ownBlock) ∧ some k_ ≠ (.slice Ao37 t259.length co37 : Value).ownBlock) ∧ some k_ ≠ (.slice Ao38 t262.length co38 : Value).ownBlock) ∧ some k_ ≠ (.slice Ao39 t268.length co39 : Value).ownBlock) ∧ some k_ ≠ (.slice Ao40 t271.length co40 : Value).ownBlock) ∧ some k_ ≠ (.slice Ao41 t276.length co41 : Value).ownBlock) ∧ some k_ ≠ (.slice Ao42 t279.length co42 : Value).ownBlock) ∧ some k_ ≠ (.slice Ao43 t282.length co43 : Value).ownBlock) ∧ some k_ ≠ (.slice Ao44 t285.length co44 : Value).ownBlock) ∧ some k_ ≠ (.slice Ao53 t292.length co53 : Value).ownBlock) ∧ some k_ ≠ (.slice Ao54 t295.length co54 : Value).ownBlock) ∧ some k_ ≠ (.slice Ao55 t300.length co55 : Value).ownBlock) ∧ some k_ ≠ (.slice Ao56 t303.length co56 : Value).ownBlock) ∧ some k_ ≠ (.slice Ao57 t306.length co57 : Value).ownBlock) ∧ some k_ ≠ (.slice Ao58 t309.length co58 : Value).ownBlock)) (n := t330.length) (c := co70) ?_).2.2; exact (by (with_reducible repeat (first | apply Kd.S_alloc | apply Kd.S_drewN | apply Kd.S_drew)); exact (Kd.S_mono (Kd.S_fars (Kd.S_types HO332.out BK336.out (by decide)) (fun _ hk => hk.2)) (fun _ h_ => h_.1)))); (case side22 => exact (Kd.S_reads' HO332.out).2.1); (case side23 => refine (Kd.S_reads' (e := 37) (base := w.heap.size) (ok := fun k_ => (((((((((((((((((((some k_ ≠ (.slice Ao66 t316.length co66 : Value).ownBlock ∧ (some k_ ≠ (.slice Ao67 t319.length co67 : Value).ownBlock ∧ (some k_ ≠ (.slice Ao68 t324.length co68 : Value).ownBlock ∧ (some k_ ≠ (.slice Ao69 t327.length co69 : Value).ownBlock ∧ some k_ ≠ (.slice Ao70 t330.length co70 : Value).ownBlock)))) ∧ some k_ ≠ (.slice Ao33 t245.length co33 : Value).ownBlock) ∧ some k_ ≠ (.slice Ao34 t248.length co34 : Value).ownBlock) ∧ some k_ ≠ (.slice Ao35 t253.length co35 : Value).ownBlock) ∧ some k_ ≠ (.slice Ao36 t256.length co36 : Value).ownBlock) ∧ some k_ ≠ (.slice Ao37 t259.length co37 : Value).ownBlock) ∧ some k_ ≠ (.slice Ao38 t262.length co38 : Value).ownBlock) ∧ some k_ ≠ (.slice Ao39 t268.length co39 : Value).ownBlock) ∧ some k_ ≠ (.slice Ao40 t271.length co40 : Value).ownBlock) ∧ some k_ ≠ (.slice Ao41 t276.length co41 : Value).ownBlock) ∧ some k_ ≠ (.slice Ao42 t279.length co42 : Value).ownBlock) ∧ some k_ ≠ (.slice Ao43 t282.length co43 : Value).ownBlock) ∧ some k_ ≠ (.slice Ao44 t285.length co44 : Value).ownBlock) ∧ some k_ ≠ (.slice Ao53 t292.length co53 : Value).ownBlock) ∧ some k_ ≠ (.slice Ao54 t295.length co54 : Value).ownBlock) ∧ some k_ ≠ (.slice Ao55 t300.length co55 : Value).ownBlock) ∧ some k_ ≠ (.slice Ao56 t303.length co56 : Value).ownBlock) ∧ some k_ ≠ (.slice Ao57 t306.length co57 : Value).ownBlock) ∧ some k_ ≠ (.slice Ao58 t309.length co58 : Value).ownBlock)) (n := t333.length) (c := co71) ?_).2.2; exact (by (with_reducible repeat (first | apply Kd.S_alloc | apply Kd.S_drewN | apply Kd.S_drew)); exact (Kd.S_mono (Kd.S_fars (Kd.S_types HO335.out BK336.out (by decide)) (fun _ hk => hk.2)) (fun _ h_ => h_.1)))); (case side24 => exact (Kd.S_reads' HO335.out).2.1); rintro e w73 ⟨rfl, hb⟩; refine ⟨_, rfl, ?_⟩; have n0_ := Aside0.mk (Kd.R_below (by (with_reducible repeat (first | apply Kd.R_alloc | apply Kd.R_drewN | apply Kd.R_drew)); exact (Kd.R_mono (Kd.R_fars (Kd.R_types HO247.out BK336.out (by decide)) (fun _ hk => hk.2)) (fun _ h_ => h_.1))) hb); have n1_ := Aside0.mk (Kd.R_below (by (with_reducible repeat (first | apply Kd.R_alloc | apply Kd.R_drewN | apply Kd.R_drew)); exact (Kd.R_mono (Kd.R_fars (Kd.R_types HO250.out BK336.out (by decide)) (fun _ hk => hk.2)) (fun _ h_ => h_.1))) hb); have n2_ := Aside0.mk (Kd.R_below (by (with_reducible repeat (first | apply Kd.R_alloc | apply Kd.R_drewN | apply Kd.R_drew)); exact (Kd.R_mono (Kd.R_fars (Kd.R_types HO255.out BK336.out (by decide)) (fun _ hk => hk.2)) (fun _ h_ => h_.1))) hb); have n3_ := Aside0.mk (Kd.R_below (by (with_reducible repeat (first | apply Kd.R_alloc | apply Kd.R_drewN | apply Kd.R_drew)); exact (Kd.R_mono (Kd.R_fars (Kd.R_types HO258.out BK336.out (by decide)) (fun _ hk => hk.2)) (fun _ h_ => h_.1))) hb); have n4_ := Aside0.mk (Kd.S_below (by (with_reducible repeat (first | apply Kd.S_alloc | apply Kd.S_drewN | apply Kd.S_drew)); exact (Kd.S_mono (Kd.S_fars (Kd.S_types HO261.out BK336.out (by decide)) (fun _ hk => hk.2)) (fun _ h_ => h_.1))) hb); have n5_ := Aside0.mk (Kd.S_below (by (with_reducible repeat (first | apply Kd.S_alloc | apply Kd.S_drewN | apply Kd.S_drew)); exact (Kd.S_mono (Kd.S_fars (Kd.S_types HO264.out BK336.out (by decide)) (fun _ hk => hk.2)) (fun _ h_ => h_.1))) hb); have n6_ := Aside0.mk (Kd.R_below (by (with_reducible repeat (first | apply Kd.R_alloc | apply Kd.R_drewN | apply Kd.R_drew)); exact (Kd.R_mono (Kd.R_fars (Kd.R_types HO270.out BK336.out (by decide)) (fun _ hk => hk.2)) (fun _ h_ => h_.1))) hb); have n7_ := Aside0.mk (Kd.R_below (by (with_reducible repeat (first | apply Kd.R_alloc | apply Kd.R_drewN | apply Kd.R_drew)); exact (Kd.R_mono (Kd.R_fars (Kd.R_types HO273.out BK336.out (by decide)) (fun _ hk => hk.2)) (fun _ h_ => h_.1))) hb); have n8_ := Aside0.mk (Kd.R_below (by (with_reducible repeat (first | apply Kd.R_alloc | apply Kd.R_drewN | apply Kd.R_drew)); exact (Kd.R_mono (Kd.R_fars (Kd.R_types HO278.out BK336.out (by decide)) (fun _ hk => hk.2)) (fun _ h_ => h_.1))) hb); have n9_ := Aside0.mk (Kd.R_below (by (with_reducible repeat (first | apply Kd.R_alloc | apply Kd.R_drewN | apply Kd.R_drew)); exact (Kd.R_mono (Kd.R_fars (Kd.R_types HO281.out BK336.out (by decide)) (fun _ hk => hk.2)) (fun _ h_ => h_.1))) hb); have n10_ := Aside0.mk (Kd.S_below (by (with_reducible repeat (first | apply Kd.S_alloc | apply Kd.S_drewN | apply Kd.S_drew)); exact (Kd.S_mono (Kd.S_fars (Kd.S_types HO284.out BK336.out (by decide)) (fun _ hk => hk.2)) (fun _ h_ => h_.1))) hb); have n11_ := Aside0.mk (Kd.S_below (by (with_reducible repeat (first | apply Kd.S_alloc | apply Kd.S_drewN | apply Kd.S_drew)); exact (Kd.S_mono (Kd.S_fars (Kd.S_types HO287.out BK336.out (by decide)) (fun _ hk => hk.2)) (fun _ h_ => h_.1))) hb); have n12_ := Aside0.mk (Kd.R_below (by (with_reducible repeat (first | apply Kd.R_alloc | apply Kd.R_drewN | apply Kd.R_drew)); exact (Kd.R_mono (Kd.R_fars (Kd.R_types HO294.out BK336.out (by decide)) (fun _ hk => hk.2)) (fun _ h_ => h_.1))) hb); have n13_ := Aside0.mk (Kd.R_below (by (with_reducible repeat (first | apply Kd.R_alloc | apply Kd.R_drewN | apply Kd.R_drew)); exact (Kd.R_mono (Kd.R_fars (Kd.R_types HO297.out BK336.out (by decide)) (fun _ hk => hk.2)) (fun _ h_ => h_.1))) hb); have n14_ := Aside0.mk (Kd.R_below (by (with_reducible repeat (first | apply Kd.R_alloc | apply Kd.R_drewN | apply Kd.R_drew)); exact (Kd.R_mono (Kd.R_fars (Kd.R_types HO302.out BK336.out (by decide)) (fun _ hk => hk.2)) (fun _ h_ => h_.1))) hb); have n15_ := Aside0.mk (Kd.R_below (by (with_reducible repeat (first | apply Kd.R_alloc | apply Kd.R_drewN | apply Kd.R_drew)); exact (Kd.R_mono (Kd.R_fars (Kd.R_types HO305.out BK336.out (by decide)) (fun _ hk => hk.2)) (fun _ h_ => h_.1))) hb); have n16_ := Aside0.mk (Kd.S_below (by (with_reducible repeat (first | apply Kd.S_alloc | apply Kd.S_drewN | apply Kd.S_drew)); exact (Kd.S_mono (Kd.S_fars (Kd.S_types HO308.out BK336.out (by decide)) (fun _ hk => hk.2)) (fun _ h_ => h_.1))) hb); have n17_ := Aside0.mk (Kd.S_below (by (with_reducible repeat (first | apply Kd.S_alloc | apply Kd.S_drewN | apply Kd.S_drew)); exact (Kd.S_mono (Kd.S_fars (Kd.S_types HO311.out BK336.out (by decide)) (fun _ hk => hk.2)) (fun _ h_ => h_.1))) hb); have n18_ := Aside0.mk (Kd.R_below (by (with_reducible repeat (first | apply Kd.R_alloc | apply Kd.R_drewN | apply Kd.R_drew)); exact (Kd.R_mono (Kd.R_fars (Kd.R_types HO318.out BK336.out (by decide)) (fun _ hk => hk.2)) (fun _ h_ => h_.1))) hb); have n19_ := Aside0.mk (Kd.R_below (by (with_reducible repeat (first | apply Kd.R_alloc | apply Kd.R_drewN | apply Kd.R_drew)); exact (Kd.R_mono (Kd.R_fars (Kd.R_types HO321.out BK336.out (by decide)) (fun _ hk => hk.2)) (fun _ h_ => h_.1))) hb); have n20_ := Aside0.mk (Kd.R_below (by (with_reducible repeat (first | apply Kd.R_alloc | apply Kd.R_drewN | apply Kd.R_drew)); exact (Kd.R_mono (Kd.R_fars (Kd.R_types HO326.out BK336.out (by decide)) (fun _ hk => hk.2)) (fun _ h_ => h_.1))) hb); have n21_ := Aside0.mk (Kd.R_below (by (with_reducible repeat (first | apply Kd.R_alloc | apply Kd.R_drewN | apply Kd.R_drew)); exact (Kd.R_mono (Kd.R_fars (Kd.R_types HO329.out BK336.out (by decide)) (fun _ hk => hk.2)) (fun _ h_ => h_.1))) hb); have n22_ := Aside0.mk (Kd.S_below (by (with_reducible repeat (first | apply Kd.S_alloc | apply Kd.S_drewN | apply Kd.S_drew)); exact (Kd.S_mono (Kd.S_fars (Kd.S_types HO332.out BK336.out (by decide)) (fun _ hk => hk.2)) (fun _ h_ => h_.1))) hb); have n23_ := Aside0.mk (Kd.S_below (by (with_reducible repeat (first | apply Kd.S_alloc | apply Kd.S_drewN | apply Kd.S_drew)); exact (Kd.S_mono (Kd.S_fars (Kd.S_types HO335.out BK336.out (by decide)) (fun _ hk => hk.2)) (fun _ h_ => h_.1))) hb); have n24_ := Aside0.mk (blk_below (g := gb238) (o := .cells #[.int .i64 a0_0, .int .i64 a0_1, .int .i64 a0_2, .slice A0_3 l0_3.length c0_3, .slice A0_4 l0_4.length c0_4, .int .i64 a0_5, .int .i64 a0_6, .slice A0_7 l0_7.length c0_7, .slice A0_8 l0_8.length c0_8, .slice A0_9 l0_9.length c0_9, .slice A0_10 l0_10.length c0_10] 64 (0, 0)) (by (with_reducible repeat (first | refine blk_drewN ?_ _ | refine blk_drew ?_ | refine blk_alloc ?_ _)); refine blk_far ?_ NB238_336.out _; (with_reducible repeat (first | refine blk_drewN ?_ _ | refine blk_drew ?_ | refine blk_alloc ?_ _)); refine blk_far ?_ NB238_336.out _; (with_reducible repeat (first | refine blk_drewN ?_ _ | refine blk_drew ?_ | refine blk_alloc ?_ _)); refine blk_far ?_ NB238_336.out _; (with_reducible repeat (first | refine blk_drewN ?_ _ | refine blk_drew ?_ | refine blk_alloc ?_ _)); refine blk_far ?_ NB238_336.out _; (with_reducible repeat (first | refine blk_drewN ?_ _ | refine blk_drew ?_ | refine blk_alloc ?_ _)); refine blk_far ?_ NB238_336.out _; (with_reducible repeat (first | refine blk_drewN ?_ _ | refine blk_drew ?_ | refine blk_alloc ?_ _)); refine blk_far ?_ NB238_336.out _; (with_reducible repeat (first | refine blk_drewN ?_ _ | refine blk_drew ?_ | refine blk_alloc ?_ _)); refine blk_far ?_ NB238_336.out _; (with_reducible repeat (first | refine blk_drewN ?_ _ | refine blk_drew ?_ | refine blk_alloc ?_ _)); refine blk_far ?_ NB238_336.out _; (with_reducible repeat (first | refine blk_drewN ?_ _ | refine blk_drew ?_ | refine blk_alloc ?_ _)); refine blk_far ?_ NB238_336.out _; (with_reducible repeat (first | refine blk_drewN ?_ _ | refine blk_drew ?_ | refine blk_alloc ?_ _)); refine blk_far ?_ NB238_336.out _; (with_reducible repeat (first | refine blk_drewN ?_ _ | refine blk_drew ?_ | refine blk_alloc ?_ _)); refine blk_far ?_ NB238_336.out _; (with_reducible repeat (first | refine blk_drewN ?_ _ | refine blk_drew ?_ | refine blk_alloc ?_ _)); exact BK238.out) hb); have n25_ := Aside0.mk (blk_below (g := gb239) (o := .cells #[.int .i64 a1_0, .int .i64 a1_1, .int .i64 a1_2, .slice A1_3 l1_3.length c1_3, .slice A1_4 l1_4.length c1_4, .int .i64 a1_5, .int .i64 a1_6, .slice A1_7 l1_7.length c1_7, .slice A1_8 l1_8.length c1_8, .slice A1_9 l1_9.length c1_9, .slice A1_10 l1_10.length c1_10] 64 (0, 0)) (by (with_reducible repeat (first | refine blk_drewN ?_ _ | refine blk_drew ?_ | refine blk_alloc ?_ _)); refine blk_far ?_ NB239_336.out _; (with_reducible repeat (first | refine blk_drewN ?_ _ | refine blk_drew ?_ | refine blk_alloc ?_ _)); refine blk_far ?_ NB239_336.out _; (with_reducible repeat (first | refine blk_drewN ?_ _ | refine blk_drew ?_ | refine blk_alloc ?_ _)); refine blk_far ?_ NB239_336.out _; (with_reducible repeat (first | refine blk_drewN ?_ _ | refine blk_drew ?_ | refine blk_alloc ?_ _)); refine blk_far ?_ NB239_336.out _; (with_reducible repeat (first | refine blk_drewN ?_ _ | refine blk_drew ?_ | refine blk_alloc ?_ _)); refine blk_far ?_ NB239_336.out _; (with_reducible repeat (first | refine blk_drewN ?_ _ | refine blk_drew ?_ | refine blk_alloc ?_ _)); refine blk_far ?_ NB239_336.out _; (with_reducible repeat (first | refine blk_drewN ?_ _ | refine blk_drew ?_ | refine blk_alloc ?_ _)); refine blk_far ?_ NB239_336.out _; (with_reducible repeat (first | refine blk_drewN ?_ _ | refine blk_drew ?_ | refine blk_alloc ?_ _)); refine blk_far ?_ NB239_336.out _; (with_reducible repeat (first | refine blk_drewN ?_ _ | refine blk_drew ?_ | refine blk_alloc ?_ _)); refine blk_far ?_ NB239_336.out _; (with_reducible repeat (first | refine blk_drewN ?_ _ | refine blk_drew ?_ | refine blk_alloc ?_ _)); refine blk_far ?_ NB239_336.out _; (with_reducible repeat (first | refine blk_drewN ?_ _ | refine blk_drew ?_ | refine blk_alloc ?_ _)); refine blk_far ?_ NB239_336.out _; (with_reducible repeat (first | refine blk_drewN ?_ _ | refine blk_drew ?_ | refine blk_alloc ?_ _)); exact BK239.out) hb); have n26_ := Aside0.mk (blk_below (g := gb312) (o := .cells #[.int .i64 t289, .int .i64 t290, .int .i64 t291, .slice Ao53 t292.length co53, .slice Ao54 t295.length co54, .int .i64 t298, .int .i64 t299, .slice Ao55 t300.length co55, .slice Ao56 t303.length co56, .slice Ao57 t306.length co57, .slice Ao58 t309.length co58] 68 (0, 0)) (by (with_reducible repeat (first | refine blk_drewN ?_ _ | refine blk_drew ?_ | refine blk_alloc ?_ _)); refine blk_far ?_ NB312_336.out _; (with_reducible repeat (first | refine blk_drewN ?_ _ | refine blk_drew ?_ | refine blk_alloc ?_ _)); refine blk_far ?_ NB312_336.out _; (with_reducible repeat (first | refine blk_drewN ?_ _ | refine blk_drew ?_ | refine blk_alloc ?_ _)); refine blk_far ?_ NB312_336.out _; (with_reducible repeat (first | refine blk_drewN ?_ _ | refine blk_drew ?_ | refine blk_alloc ?_ _)); refine blk_far ?_ NB312_336.out _; (with_reducible repeat (first | refine blk_drewN ?_ _ | refine blk_drew ?_ | refine blk_alloc ?_ _)); refine blk_far ?_ NB312_336.out _; (with_reducible repeat (first | refine blk_drewN ?_ _ | refine blk_drew ?_ | refine blk_alloc ?_ _)); refine blk_far ?_ NB312_336.out _; (with_reducible repeat (first | refine blk_drewN ?_ _ | refine blk_drew ?_ | refine blk_alloc ?_ _)); refine blk_far ?_ NB312_336.out _; (with_reducible repeat (first | refine blk_drewN ?_ _ | refine blk_drew ?_ | refine blk_alloc ?_ _)); refine blk_far ?_ NB312_336.out _; (with_reducible repeat (first | refine blk_drewN ?_ _ | refine blk_drew ?_ | refine blk_alloc ?_ _)); refine blk_far ?_ NB312_336.out _; (with_reducible repeat (first | refine blk_drewN ?_ _ | refine blk_drew ?_ | refine blk_alloc ?_ _)); refine blk_far ?_ NB312_336.out _; (with_reducible repeat (first | refine blk_drewN ?_ _ | refine blk_drew ?_ | refine blk_alloc ?_ _)); refine blk_far ?_ NB312_336.out _; (with_reducible repeat (first | refine blk_drewN ?_ _ | refine blk_drew ?_ | refine blk_alloc ?_ _)); exact BK312.out) hb); have n27_ := Aside0.mk (blk_below (g := gb336) (o := .cells #[.int .i64 t313, .int .i64 t314, .int .i64 t315, .slice Ao66 t316.length co66, .slice Ao67 t319.length co67, .int .i64 t322, .int .i64 t323, .slice Ao68 t324.length co68, .slice Ao69 t327.length co69, .slice Ao70 t330.length co70, .slice Ao71 t333.length co71] 68 (0, 0)) (by (with_reducible repeat (first | refine blk_drewN ?_ _ | refine blk_drew ?_ | refine blk_alloc ?_ _)); refine blk_put (cs := #[.int .i64 t313, .int .i64 t314, .int .i64 t315, .slice Ao66 t316.length co66, .slice Ao67 t319.length co67, .int .i64 t322, .int .i64 t323, .slice Ao68 t324.length co68, .slice Ao69 t327.length co69, .slice Ao70 t330.length co70, .slice none 0 0]) ?_ 10 _ rfl; (with_reducible repeat (first | refine blk_drewN ?_ _ | refine blk_drew ?_ | refine blk_alloc ?_ _)); refine blk_put (cs := #[.int .i64 t313, .int .i64 t314, .int .i64 t315, .slice Ao66 t316.length co66, .slice Ao67 t319.length co67, .int .i64 t322, .int .i64 t323, .slice Ao68 t324.length co68, .slice Ao69 t327.length co69, .slice none 0 0, .slice none 0 0]) ?_ 9 _ rfl; (with_reducible repeat (first | refine blk_drewN ?_ _ | refine blk_drew ?_ | refine blk_alloc ?_ _)); refine blk_put (cs := #[.int .i64 t313, .int .i64 t314, .int .i64 t315, .slice Ao66 t316.length co66, .slice Ao67 t319.length co67, .int .i64 t322, .int .i64 t323, .slice Ao68 t324.length co68, .slice none 0 0, .slice none 0 0, .slice none 0 0]) ?_ 8 _ rfl; (with_reducible repeat (first | refine blk_drewN ?_ _ | refine blk_drew ?_ | refine blk_alloc ?_ _)); refine blk_put (cs := #[.int .i64 t313, .int .i64 t314, .int .i64 t315, .slice Ao66 t316.length co66, .slice Ao67 t319.length co67, .int .i64 t322, .int .i64 t323, .slice none 0 0, .slice none 0 0, .slice none 0 0, .slice none 0 0]) ?_ 7 _ rfl; (with_reducible repeat (first | refine blk_drewN ?_ _ | refine blk_drew ?_ | refine blk_alloc ?_ _)); refine blk_put (cs := #[.int .i64 t313, .int .i64 t314, .int .i64 t315, .slice Ao66 t316.length co66, .slice Ao67 t319.length co67, .int .i64 t322, .int .i64 0, .slice none 0 0, .slice none 0 0, .slice none 0 0, .slice none 0 0]) ?_ 6 _ rfl; (with_reducible repeat (first | refine blk_drewN ?_ _ | refine blk_drew ?_ | refine blk_alloc ?_ _)); refine blk_put (cs := #[.int .i64 t313, .int .i64 t314, .int .i64 t315, .slice Ao66 t316.length co66, .slice Ao67 t319.length co67, .int .i64 0, .int .i64 0, .slice none 0 0, .slice none 0 0, .slice none 0 0, .slice none 0 0]) ?_ 5 _ rfl; (with_reducible repeat (first | refine blk_drewN ?_ _ | refine blk_drew ?_ | refine blk_alloc ?_ _)); refine blk_put (cs := #[.int .i64 t313, .int .i64 t314, .int .i64 t315, .slice Ao66 t316.length co66, .slice none 0 0, .int .i64 0, .int .i64 0, .slice none 0 0, .slice none 0 0, .slice none 0 0, .slice none 0 0]) ?_ 4 _ rfl; (with_reducible repeat (first | refine blk_drewN ?_ _ | refine blk_drew ?_ | refine blk_alloc ?_ _)); refine blk_put (cs := #[.int .i64 t313, .int .i64 t314, .int .i64 t315, .slice none 0 0, .slice none 0 0, .int .i64 0, .int .i64 0, .slice none 0 0, .slice none 0 0, .slice none 0 0, .slice none 0 0]) ?_ 3 _ rfl; (with_reducible repeat (first | refine blk_drewN ?_ _ | refine blk_drew ?_ | refine blk_alloc ?_ _)); refine blk_put (cs := #[.int .i64 t313, .int .i64 t314, .int .i64 0, .slice none 0 0, .slice none 0 0, .int .i64 0, .int .i64 0, .slice none 0 0, .slice none 0 0, .slice none 0 0, .slice none 0 0]) ?_ 2 _ rfl; (with_reducible repeat (first | refine blk_drewN ?_ _ | refine blk_drew ?_ | refine blk_alloc ?_ _)); refine blk_put (cs := #[.int .i64 t313, .int .i64 0, .int .i64 0, .slice none 0 0, .slice none 0 0, .int .i64 0, .int .i64 0, .slice none 0 0, .slice none 0 0, .slice none 0 0, .slice none 0 0]) ?_ 1 _ rfl; (with_reducible repeat (first | refine blk_drewN ?_ _ | refine blk_drew ?_ | refine blk_alloc ?_ _)); refine blk_put (cs := #[.int .i64 0, .int .i64 0, .int .i64 0, .slice none 0 0, .slice none 0 0, .int .i64 0, .int .i64 0, .slice none 0 0, .slice none 0 0, .slice none 0 0, .slice none 0 0]) ?_ 0 _ rfl; (with_reducible repeat (first | refine blk_drewN ?_ _ | refine blk_drew ?_ | refine blk_alloc ?_ _)); exact BK336.out) hb); have n28_ := Aside0.mk (below_step (by repeat (first | (with_reducible first | exact HB.out | apply below_alloc | apply pw_below_drewN | apply below_drew1 | refine below_set ?_ GE238.out | refine below_set ?_ GE239.out | refine below_set ?_ GE312.out | refine below_set ?_ GE336.out) | exact HB.out)) hb); clear HO247; clear HO250; clear HO255; clear HO258; clear HO261; clear HO264; clear HO270; clear HO273; clear HO278; clear HO281; clear HO284; clear HO287; clear HO294; clear HO297; clear HO302; clear HO305; clear HO308; clear HO311; clear HO318; clear HO321; clear HO326; clear HO329; clear HO332; clear HO335; clear BK238; clear BK239; clear BK312; clear BK336; clear HB; have HO247 := n0_; have HO250 := n1_; have HO255 := n2_; have HO258 := n3_; have HO261 := n4_; have HO264 := n5_; have HO270 := n6_; have HO273 := n7_; have HO278 := n8_; have HO281 := n9_; have HO284 := n10_; have HO287 := n11_; have HO294 := n12_; have HO297 := n13_; have HO302 := n14_; have HO305 := n15_; have HO308 := n16_; have HO311 := n17_; have HO318 := n18_; have HO321 := n19_; have HO326 := n20_; have HO329 := n21_; have HO332 := n22_; have HO335 := n23_; have BK238 := n24_; have BK239 := n25_; have BK312 := n26_; have BK336 := n27_; have HB := n28_; clear n0_ n1_ n2_ n3_ n4_ n5_ n6_ n7_ n8_ n9_ n10_ n11_ n12_ n13_ n14_ n15_ n16_ n17_ n18_ n19_ n20_ n21_ n22_ n23_ n24_ n25_ n26_ n27_ n28_; (try clear hb); (try clear hb2); (try clear hk); (try clear hi)))
      have n0_ := Aside0.mk (Kd.R_drew HO247.out)
      have n1_ := Aside0.mk (Kd.R_drew HO250.out)
      have n2_ := Aside0.mk (Kd.R_drew HO255.out)
      have n3_ := Aside0.mk (Kd.R_drew HO258.out)
      have n4_ := Aside0.mk (Kd.S_drew HO261.out)
      have n5_ := Aside0.mk (Kd.S_drew HO264.out)
      have n6_ := Aside0.mk (Kd.R_drew HO270.out)
      have n7_ := Aside0.mk (Kd.R_drew HO273.out)
      have n8_ := Aside0.mk (Kd.R_drew HO278.out)
      have n9_ := Aside0.mk (Kd.R_drew HO281.out)
      have n10_ := Aside0.mk (Kd.S_drew HO284.out)
      have n11_ := Aside0.mk (Kd.S_drew HO287.out)
      have n12_ := Aside0.mk (Kd.R_drew HO294.out)
      have n13_ := Aside0.mk (Kd.R_drew HO297.out)
      have n14_ := Aside0.mk (Kd.R_drew HO302.out)
      have n15_ := Aside0.mk (Kd.R_drew HO305.out)
      have n16_ := Aside0.mk (Kd.S_drew HO308.out)
      have n17_ := Aside0.mk (Kd.S_drew HO311.out)
      have n18_ := Aside0.mk (Kd.R_drew HO318.out)
      have n19_ := Aside0.mk (Kd.R_drew HO321.out)
      have n20_ := Aside0.mk (Kd.R_drew HO326.out)
      have n21_ := Aside0.mk (Kd.R_drew HO329.out)
      have n22_ := Aside0.mk (Kd.S_drew HO332.out)
      have n23_ := Aside0.mk (Kd.S_drew HO335.out)
      have n24_ := Aside0.mk (blk_drew BK238.out)
      have n25_ := Aside0.mk (blk_drew BK239.out)
      have n26_ := Aside0.mk (blk_drew BK312.out)
      have n27_ := Aside0.mk (blk_drew BK336.out)
      have n28_ := Aside0.mk (below_drew1 HB.out)
      clear HO247
      clear HO250
      clear HO255
      clear HO258
      clear HO261
      clear HO264
      clear HO270
      clear HO273
      clear HO278
      clear HO281
      clear HO284
      clear HO287
      clear HO294
      clear HO297
      clear HO302
      clear HO305
      clear HO308
      clear HO311
      clear HO318
      clear HO321
      clear HO326
      clear HO329
      clear HO332
      clear HO335
      clear BK238
      clear BK239
      clear BK312
      clear BK336
      clear HB
      have HO247 := n0_
      have HO250 := n1_
      have HO255 := n2_
      have HO258 := n3_
      have HO261 := n4_
      have HO264 := n5_
      have HO270 := n6_
      have HO273 := n7_
      have HO278 := n8_
      have HO281 := n9_
      have HO284 := n10_
      have HO287 := n11_
      have HO294 := n12_
      have HO297 := n13_
      have HO302 := n14_
      have HO305 := n15_
      have HO308 := n16_
      have HO311 := n17_
      have HO318 := n18_
      have HO321 := n19_
      have HO326 := n20_
      have HO329 := n21_
      have HO332 := n22_
      have HO335 := n23_
      have BK238 := n24_
      have BK239 := n25_
      have BK312 := n26_
      have BK336 := n27_
      have HB := n28_
      clear n0_ n1_ n2_ n3_ n4_ n5_ n6_ n7_ n8_ n9_ n10_ n11_ n12_ n13_ n14_ n15_ n16_ n17_ n18_ n19_ n20_ n21_ n22_ n23_ n24_ n25_ n26_ n27_ n28_
      refine start_ (n := 5) (S := fun w' => w'.cell? ⟨gb312, 0, none⟩ = some (.int .i64 t289) ∧ w'.cell? ⟨gb312, 1, none⟩ = some (.int .i64 t290) ∧ w'.cell? ⟨gb312, 2, none⟩ = some (.int .i64 t291) ∧ w'.cell? ⟨gb312, 3, none⟩ = some (.slice Ao53 t292.length co53) ∧ w'.cell? ⟨gb312, 4, none⟩ = some (.slice Ao54 t295.length co54) ∧ w'.cell? ⟨gb312, 5, none⟩ = some (.int .i64 t298) ∧ w'.cell? ⟨gb312, 6, none⟩ = some (.int .i64 t299) ∧ w'.cell? ⟨gb312, 7, none⟩ = some (.slice Ao55 t300.length co55) ∧ w'.cell? ⟨gb312, 8, none⟩ = some (.slice Ao56 t303.length co56) ∧ w'.cell? ⟨gb312, 9, none⟩ = some (.slice Ao57 t306.length co57) ∧ w'.cell? ⟨gb312, 10, none⟩ = some (.slice Ao58 t309.length co58) ∧ w'.cell? ⟨gb238, 0, none⟩ = some (.int .i64 a0_0) ∧ w'.cell? ⟨gb238, 1, none⟩ = some (.int .i64 a0_1) ∧ w'.cell? ⟨gb238, 2, none⟩ = some (.int .i64 a0_2) ∧ w'.cell? ⟨gb238, 3, none⟩ = some (.slice A0_3 l0_3.length c0_3) ∧ w'.cell? ⟨gb238, 4, none⟩ = some (.slice A0_4 l0_4.length c0_4) ∧ w'.cell? ⟨gb238, 5, none⟩ = some (.int .i64 a0_5) ∧ w'.cell? ⟨gb238, 6, none⟩ = some (.int .i64 a0_6) ∧ w'.cell? ⟨gb238, 7, none⟩ = some (.slice A0_7 l0_7.length c0_7) ∧ w'.cell? ⟨gb238, 8, none⟩ = some (.slice A0_8 l0_8.length c0_8) ∧ w'.cell? ⟨gb238, 9, none⟩ = some (.slice A0_9 l0_9.length c0_9) ∧ w'.cell? ⟨gb238, 10, none⟩ = some (.slice A0_10 l0_10.length c0_10)) (ds := []) #[false, false, false, false, false] (by kernel_rfl) rfl rfl ⟨(blk_cell BK312.out 0).trans rfl, (blk_cell BK312.out 1).trans rfl, (blk_cell BK312.out 2).trans rfl, (blk_cell BK312.out 3).trans rfl, (blk_cell BK312.out 4).trans rfl, (blk_cell BK312.out 5).trans rfl, (blk_cell BK312.out 6).trans rfl, (blk_cell BK312.out 7).trans rfl, (blk_cell BK312.out 8).trans rfl, (blk_cell BK312.out 9).trans rfl, (blk_cell BK312.out 10).trans rfl, (blk_cell BK238.out 0).trans rfl, (blk_cell BK238.out 1).trans rfl, (blk_cell BK238.out 2).trans rfl, (blk_cell BK238.out 3).trans rfl, (blk_cell BK238.out 4).trans rfl, (blk_cell BK238.out 5).trans rfl, (blk_cell BK238.out 6).trans rfl, (blk_cell BK238.out 7).trans rfl, (blk_cell BK238.out 8).trans rfl, (blk_cell BK238.out 9).trans rfl, (blk_cell BK238.out 10).trans rfl⟩ (fun hHeld => ?_)
      generalize w73.drew = w74 at HO247 HO250 HO255 HO258 HO261 HO264 HO270 HO273 HO278 HO281 HO284 HO287 HO294 HO297 HO302 HO305 HO308 HO311 HO318 HO321 HO326 HO329 HO332 HO335 BK238 BK239 BK312 BK336 HB hHeld ⊢
      refine take_ (i := 0) (N := some 35) (v := ?_) (a' := ?_) #[true, false, false, false, false] rfl rfl (by kernel_rfl) (fun _ _ _ h => h) (Or.inl ⟨by rfl, ?_⟩) hHeld ?_ ?_
      rotate_left
      ·rintro w' ⟨s0, s1, s2, s3, s4, s5, s6, s7, s8, s9, s10, s11, s12, s13, s14, s15, s16, s17, s18, s19, s20, s21⟩
       go_simp
       with_reducible rfl
      rotate_left
      ·simp only [Act.put, List.setIfInBounds_toArray, List.set_cons_zero, List.set_cons_succ, i64_w, i32_w]
       rfl
      refine take_ (i := 1) (N := some 36) (v := ?_) (a' := ?_) #[true, true, false, false, false] rfl rfl (by kernel_rfl) (fun _ _ _ h => h) (Or.inl ⟨by rfl, ?_⟩) hHeld ?_ ?_
      rotate_left
      ·rintro w' ⟨s0, s1, s2, s3, s4, s5, s6, s7, s8, s9, s10, s11, s12, s13, s14, s15, s16, s17, s18, s19, s20, s21⟩
       go_simp
       with_reducible rfl
      rotate_left
      ·simp only [Act.put, List.setIfInBounds_toArray, List.set_cons_zero, List.set_cons_succ, i64_w, i32_w]
       rfl
      refine one_ (i := 2) (N := some 37) #[true, true, true, false, false] rfl rfl (by kernel_rfl) (by decide) (fun K hK => ?_)
      refine goes_ Try.func38 (by kernel_rfl) rfl #[.agg #[.int .i64 a0_0, .int .i64 a0_1, .int .i64 a0_2, .slice A0_3 l0_3.length c0_3, .slice A0_4 l0_4.length c0_4, .int .i64 a0_5, .int .i64 a0_6, .slice A0_7 l0_7.length c0_7, .slice A0_8 l0_8.length c0_8, .slice A0_9 l0_9.length c0_9, .slice A0_10 l0_10.length c0_10]] (by rfl) rfl rfl (by (try simp only [List.map_toArray, List.map_cons, List.map_nil]); first | done | rfl | (simp only [List.length_drop, List.length_take]; rfl)) ?_
      with_reducible refine (laws_toBlock.calls k a0_0 a0_1 a0_2 _ _ l0_3 _ _ l0_4 a0_5 a0_6 _ _ l0_7 _ _ l0_8 _ _ l0_9 _ _ l0_10 t338 t339 t340 t341 t344 t347 t348 t349 t352 t355 t358 _ ?side1 ?side2 ?side3 ?side4 ?side5 ?side6 ?side7 ?side8 ?side9 ?side10 ?side11 ?side12 A24.out).mono ?_
      (case side1 => repeat (first | exact (Kd.C_below HR0_3.out HB.out) | (with_reducible refine Kd.C_alloc ?_ _) | (with_reducible refine Kd.C_drewN ?_ _) | (with_reducible refine Kd.C_drew ?_)))
      (case side2 => exact HC0_3.out)
      (case side3 => repeat (first | exact (Kd.C_below HR0_4.out HB.out) | (with_reducible refine Kd.C_alloc ?_ _) | (with_reducible refine Kd.C_drewN ?_ _) | (with_reducible refine Kd.C_drew ?_)))
      (case side4 => exact HC0_4.out)
      (case side5 => repeat (first | exact (Kd.C_below HR0_7.out HB.out) | (with_reducible refine Kd.C_alloc ?_ _) | (with_reducible refine Kd.C_drewN ?_ _) | (with_reducible refine Kd.C_drew ?_)))
      (case side6 => exact HC0_7.out)
      (case side7 => repeat (first | exact (Kd.C_below HR0_8.out HB.out) | (with_reducible refine Kd.C_alloc ?_ _) | (with_reducible refine Kd.C_drewN ?_ _) | (with_reducible refine Kd.C_drew ?_)))
      (case side8 => exact HC0_8.out)
      (case side9 => repeat (first | exact (Kd.C_below HR0_9.out HB.out) | (with_reducible refine Kd.C_alloc ?_ _) | (with_reducible refine Kd.C_drewN ?_ _) | (with_reducible refine Kd.C_drew ?_)))
      (case side10 => exact HC0_9.out)
      (case side11 => repeat (first | exact (Kd.C_below HR0_10.out HB.out) | (with_reducible refine Kd.C_alloc ?_ _) | (with_reducible refine Kd.C_drewN ?_ _) | (with_reducible refine Kd.C_drew ?_)))
      (case side12 => exact HC0_10.out)
      rintro e w75 ⟨v342, v345, v350, v353, v356, v359, rfl, ho0, ho1, ho2, ho3, ho4, ho5, hb⟩
      refine ⟨_, rfl, ?_⟩
      have n0_ := Aside0.mk (Kd.R_mono (Kd.R_told (Kd.R_told (Kd.R_told (Kd.R_told (Kd.R_old (Kd.R_mv HO247) hb) (Kd.R_base ho0)) (Kd.R_base ho1)) (Kd.R_base ho2)) (Kd.R_base ho3)) (fun _ h_ => h_.1))
      have n1_ := Aside0.mk (Kd.R_mono (Kd.R_told (Kd.R_told (Kd.R_told (Kd.R_told (Kd.R_old (Kd.R_mv HO250) hb) (Kd.R_base ho0)) (Kd.R_base ho1)) (Kd.R_base ho2)) (Kd.R_base ho3)) (fun _ h_ => h_.1))
      have n2_ := Aside0.mk (Kd.R_mono (Kd.R_told (Kd.R_told (Kd.R_told (Kd.R_told (Kd.R_old (Kd.R_mv HO255) hb) (Kd.R_base ho0)) (Kd.R_base ho1)) (Kd.R_base ho2)) (Kd.R_base ho3)) (fun _ h_ => h_.1))
      have n3_ := Aside0.mk (Kd.R_mono (Kd.R_told (Kd.R_told (Kd.R_told (Kd.R_told (Kd.R_old (Kd.R_mv HO258) hb) (Kd.R_base ho0)) (Kd.R_base ho1)) (Kd.R_base ho2)) (Kd.R_base ho3)) (fun _ h_ => h_.1))
      have n4_ := Aside0.mk (Kd.S_mono (Kd.S_told (Kd.S_told (Kd.S_told (Kd.S_told (Kd.S_told (Kd.S_told (Kd.S_old (Kd.S_mv HO261) hb) (Kd.R_base ho0)) (Kd.R_base ho1)) (Kd.R_base ho2)) (Kd.R_base ho3)) (Kd.S_base ho4)) (Kd.S_base ho5)) (fun _ h_ => h_.1))
      have n5_ := Aside0.mk (Kd.S_mono (Kd.S_told (Kd.S_told (Kd.S_told (Kd.S_told (Kd.S_told (Kd.S_told (Kd.S_old (Kd.S_mv HO264) hb) (Kd.R_base ho0)) (Kd.R_base ho1)) (Kd.R_base ho2)) (Kd.R_base ho3)) (Kd.S_base ho4)) (Kd.S_base ho5)) (fun _ h_ => h_.1))
      have n6_ := Aside0.mk (Kd.R_mono (Kd.R_told (Kd.R_told (Kd.R_told (Kd.R_told (Kd.R_old (Kd.R_mv HO270) hb) (Kd.R_base ho0)) (Kd.R_base ho1)) (Kd.R_base ho2)) (Kd.R_base ho3)) (fun _ h_ => h_.1))
      have n7_ := Aside0.mk (Kd.R_mono (Kd.R_told (Kd.R_told (Kd.R_told (Kd.R_told (Kd.R_old (Kd.R_mv HO273) hb) (Kd.R_base ho0)) (Kd.R_base ho1)) (Kd.R_base ho2)) (Kd.R_base ho3)) (fun _ h_ => h_.1))
      have n8_ := Aside0.mk (Kd.R_mono (Kd.R_told (Kd.R_told (Kd.R_told (Kd.R_told (Kd.R_old (Kd.R_mv HO278) hb) (Kd.R_base ho0)) (Kd.R_base ho1)) (Kd.R_base ho2)) (Kd.R_base ho3)) (fun _ h_ => h_.1))
      have n9_ := Aside0.mk (Kd.R_mono (Kd.R_told (Kd.R_told (Kd.R_told (Kd.R_told (Kd.R_old (Kd.R_mv HO281) hb) (Kd.R_base ho0)) (Kd.R_base ho1)) (Kd.R_base ho2)) (Kd.R_base ho3)) (fun _ h_ => h_.1))
      have n10_ := Aside0.mk (Kd.S_mono (Kd.S_told (Kd.S_told (Kd.S_told (Kd.S_told (Kd.S_told (Kd.S_told (Kd.S_old (Kd.S_mv HO284) hb) (Kd.R_base ho0)) (Kd.R_base ho1)) (Kd.R_base ho2)) (Kd.R_base ho3)) (Kd.S_base ho4)) (Kd.S_base ho5)) (fun _ h_ => h_.1))
      have n11_ := Aside0.mk (Kd.S_mono (Kd.S_told (Kd.S_told (Kd.S_told (Kd.S_told (Kd.S_told (Kd.S_told (Kd.S_old (Kd.S_mv HO287) hb) (Kd.R_base ho0)) (Kd.R_base ho1)) (Kd.R_base ho2)) (Kd.R_base ho3)) (Kd.S_base ho4)) (Kd.S_base ho5)) (fun _ h_ => h_.1))
      have n12_ := Aside0.mk (Kd.R_mono (Kd.R_told (Kd.R_told (Kd.R_told (Kd.R_told (Kd.R_old (Kd.R_mv HO294) hb) (Kd.R_base ho0)) (Kd.R_base ho1)) (Kd.R_base ho2)) (Kd.R_base ho3)) (fun _ h_ => h_.1))
      have n13_ := Aside0.mk (Kd.R_mono (Kd.R_told (Kd.R_told (Kd.R_told (Kd.R_told (Kd.R_old (Kd.R_mv HO297) hb) (Kd.R_base ho0)) (Kd.R_base ho1)) (Kd.R_base ho2)) (Kd.R_base ho3)) (fun _ h_ => h_.1))
      have n14_ := Aside0.mk (Kd.R_mono (Kd.R_told (Kd.R_told (Kd.R_told (Kd.R_told (Kd.R_old (Kd.R_mv HO302) hb) (Kd.R_base ho0)) (Kd.R_base ho1)) (Kd.R_base ho2)) (Kd.R_base ho3)) (fun _ h_ => h_.1))
      have n15_ := Aside0.mk (Kd.R_mono (Kd.R_told (Kd.R_told (Kd.R_told (Kd.R_told (Kd.R_old (Kd.R_mv HO305) hb) (Kd.R_base ho0)) (Kd.R_base ho1)) (Kd.R_base ho2)) (Kd.R_base ho3)) (fun _ h_ => h_.1))
      have n16_ := Aside0.mk (Kd.S_mono (Kd.S_told (Kd.S_told (Kd.S_told (Kd.S_told (Kd.S_told (Kd.S_told (Kd.S_old (Kd.S_mv HO308) hb) (Kd.R_base ho0)) (Kd.R_base ho1)) (Kd.R_base ho2)) (Kd.R_base ho3)) (Kd.S_base ho4)) (Kd.S_base ho5)) (fun _ h_ => h_.1))
      have n17_ := Aside0.mk (Kd.S_mono (Kd.S_told (Kd.S_told (Kd.S_told (Kd.S_told (Kd.S_told (Kd.S_told (Kd.S_old (Kd.S_mv HO311) hb) (Kd.R_base ho0)) (Kd.R_base ho1)) (Kd.R_base ho2)) (Kd.R_base ho3)) (Kd.S_base ho4)) (Kd.S_base ho5)) (fun _ h_ => h_.1))
      have n18_ := Aside0.mk (Kd.R_mono (Kd.R_told (Kd.R_told (Kd.R_told (Kd.R_told (Kd.R_old (Kd.R_mv HO318) hb) (Kd.R_base ho0)) (Kd.R_base ho1)) (Kd.R_base ho2)) (Kd.R_base ho3)) (fun _ h_ => h_.1))
      have n19_ := Aside0.mk (Kd.R_mono (Kd.R_told (Kd.R_told (Kd.R_told (Kd.R_told (Kd.R_old (Kd.R_mv HO321) hb) (Kd.R_base ho0)) (Kd.R_base ho1)) (Kd.R_base ho2)) (Kd.R_base ho3)) (fun _ h_ => h_.1))
      have n20_ := Aside0.mk (Kd.R_mono (Kd.R_told (Kd.R_told (Kd.R_told (Kd.R_told (Kd.R_old (Kd.R_mv HO326) hb) (Kd.R_base ho0)) (Kd.R_base ho1)) (Kd.R_base ho2)) (Kd.R_base ho3)) (fun _ h_ => h_.1))
      have n21_ := Aside0.mk (Kd.R_mono (Kd.R_told (Kd.R_told (Kd.R_told (Kd.R_told (Kd.R_old (Kd.R_mv HO329) hb) (Kd.R_base ho0)) (Kd.R_base ho1)) (Kd.R_base ho2)) (Kd.R_base ho3)) (fun _ h_ => h_.1))
      have n22_ := Aside0.mk (Kd.S_mono (Kd.S_told (Kd.S_told (Kd.S_told (Kd.S_told (Kd.S_told (Kd.S_told (Kd.S_old (Kd.S_mv HO332) hb) (Kd.R_base ho0)) (Kd.R_base ho1)) (Kd.R_base ho2)) (Kd.R_base ho3)) (Kd.S_base ho4)) (Kd.S_base ho5)) (fun _ h_ => h_.1))
      have n23_ := Aside0.mk (Kd.S_mono (Kd.S_told (Kd.S_told (Kd.S_told (Kd.S_told (Kd.S_told (Kd.S_told (Kd.S_old (Kd.S_mv HO335) hb) (Kd.R_base ho0)) (Kd.R_base ho1)) (Kd.R_base ho2)) (Kd.R_base ho3)) (Kd.S_base ho4)) (Kd.S_base ho5)) (fun _ h_ => h_.1))
      have n24_ := Aside0.mk (Kd.R_lower (Kd.R_new' (Kd.R_new' (Kd.R_new' (Kd.R_new' (Kd.R_new' (Kd.R_new' (Kd.R_new' (Kd.R_new' (Kd.R_new' (Kd.R_new' (Kd.R_new' (Kd.R_new' (Kd.R_new' (Kd.R_new' (Kd.R_new' (Kd.R_new' ho0 (Kd.R_lt (Kd.R_mv HO247))) (Kd.R_lt (Kd.R_mv HO250))) (Kd.R_lt (Kd.R_mv HO255))) (Kd.R_lt (Kd.R_mv HO258))) (Kd.R_lt (Kd.R_mv HO270))) (Kd.R_lt (Kd.R_mv HO273))) (Kd.R_lt (Kd.R_mv HO278))) (Kd.R_lt (Kd.R_mv HO281))) (Kd.R_lt (Kd.R_mv HO294))) (Kd.R_lt (Kd.R_mv HO297))) (Kd.R_lt (Kd.R_mv HO302))) (Kd.R_lt (Kd.R_mv HO305))) (Kd.R_lt (Kd.R_mv HO318))) (Kd.R_lt (Kd.R_mv HO321))) (Kd.R_lt (Kd.R_mv HO326))) (Kd.R_lt (Kd.R_mv HO329))) (below_size (by repeat (first | (with_reducible first | exact HB.out | apply below_alloc | apply pw_below_drewN | apply below_drew1 | refine below_set ?_ GE238.out | refine below_set ?_ GE239.out | refine below_set ?_ GE312.out | refine below_set ?_ GE336.out) | exact HB.out))))
      have n25_ := Aside0.mk (Kd.R_lower (Kd.R_new' (Kd.R_new' (Kd.R_new' (Kd.R_new' (Kd.R_new' (Kd.R_new' (Kd.R_new' (Kd.R_new' (Kd.R_new' (Kd.R_new' (Kd.R_new' (Kd.R_new' (Kd.R_new' (Kd.R_new' (Kd.R_new' (Kd.R_new' ho1 (Kd.R_lt (Kd.R_mv HO247))) (Kd.R_lt (Kd.R_mv HO250))) (Kd.R_lt (Kd.R_mv HO255))) (Kd.R_lt (Kd.R_mv HO258))) (Kd.R_lt (Kd.R_mv HO270))) (Kd.R_lt (Kd.R_mv HO273))) (Kd.R_lt (Kd.R_mv HO278))) (Kd.R_lt (Kd.R_mv HO281))) (Kd.R_lt (Kd.R_mv HO294))) (Kd.R_lt (Kd.R_mv HO297))) (Kd.R_lt (Kd.R_mv HO302))) (Kd.R_lt (Kd.R_mv HO305))) (Kd.R_lt (Kd.R_mv HO318))) (Kd.R_lt (Kd.R_mv HO321))) (Kd.R_lt (Kd.R_mv HO326))) (Kd.R_lt (Kd.R_mv HO329))) (below_size (by repeat (first | (with_reducible first | exact HB.out | apply below_alloc | apply pw_below_drewN | apply below_drew1 | refine below_set ?_ GE238.out | refine below_set ?_ GE239.out | refine below_set ?_ GE312.out | refine below_set ?_ GE336.out) | exact HB.out))))
      have n26_ := Aside0.mk (Kd.R_lower (Kd.R_new' (Kd.R_new' (Kd.R_new' (Kd.R_new' (Kd.R_new' (Kd.R_new' (Kd.R_new' (Kd.R_new' (Kd.R_new' (Kd.R_new' (Kd.R_new' (Kd.R_new' (Kd.R_new' (Kd.R_new' (Kd.R_new' (Kd.R_new' ho2 (Kd.R_lt (Kd.R_mv HO247))) (Kd.R_lt (Kd.R_mv HO250))) (Kd.R_lt (Kd.R_mv HO255))) (Kd.R_lt (Kd.R_mv HO258))) (Kd.R_lt (Kd.R_mv HO270))) (Kd.R_lt (Kd.R_mv HO273))) (Kd.R_lt (Kd.R_mv HO278))) (Kd.R_lt (Kd.R_mv HO281))) (Kd.R_lt (Kd.R_mv HO294))) (Kd.R_lt (Kd.R_mv HO297))) (Kd.R_lt (Kd.R_mv HO302))) (Kd.R_lt (Kd.R_mv HO305))) (Kd.R_lt (Kd.R_mv HO318))) (Kd.R_lt (Kd.R_mv HO321))) (Kd.R_lt (Kd.R_mv HO326))) (Kd.R_lt (Kd.R_mv HO329))) (below_size (by repeat (first | (with_reducible first | exact HB.out | apply below_alloc | apply pw_below_drewN | apply below_drew1 | refine below_set ?_ GE238.out | refine below_set ?_ GE239.out | refine below_set ?_ GE312.out | refine below_set ?_ GE336.out) | exact HB.out))))
      have n27_ := Aside0.mk (Kd.R_lower (Kd.R_new' (Kd.R_new' (Kd.R_new' (Kd.R_new' (Kd.R_new' (Kd.R_new' (Kd.R_new' (Kd.R_new' (Kd.R_new' (Kd.R_new' (Kd.R_new' (Kd.R_new' (Kd.R_new' (Kd.R_new' (Kd.R_new' (Kd.R_new' ho3 (Kd.R_lt (Kd.R_mv HO247))) (Kd.R_lt (Kd.R_mv HO250))) (Kd.R_lt (Kd.R_mv HO255))) (Kd.R_lt (Kd.R_mv HO258))) (Kd.R_lt (Kd.R_mv HO270))) (Kd.R_lt (Kd.R_mv HO273))) (Kd.R_lt (Kd.R_mv HO278))) (Kd.R_lt (Kd.R_mv HO281))) (Kd.R_lt (Kd.R_mv HO294))) (Kd.R_lt (Kd.R_mv HO297))) (Kd.R_lt (Kd.R_mv HO302))) (Kd.R_lt (Kd.R_mv HO305))) (Kd.R_lt (Kd.R_mv HO318))) (Kd.R_lt (Kd.R_mv HO321))) (Kd.R_lt (Kd.R_mv HO326))) (Kd.R_lt (Kd.R_mv HO329))) (below_size (by repeat (first | (with_reducible first | exact HB.out | apply below_alloc | apply pw_below_drewN | apply below_drew1 | refine below_set ?_ GE238.out | refine below_set ?_ GE239.out | refine below_set ?_ GE312.out | refine below_set ?_ GE336.out) | exact HB.out))))
      have n28_ := Aside0.mk (Kd.S_lower (Kd.S_new' (Kd.S_new' (Kd.S_new' (Kd.S_new' (Kd.S_new' (Kd.S_new' (Kd.S_new' (Kd.S_new' (Kd.S_new' (Kd.S_new' (Kd.S_new' (Kd.S_new' (Kd.S_new' (Kd.S_new' (Kd.S_new' (Kd.S_new' (Kd.S_new' (Kd.S_new' (Kd.S_new' (Kd.S_new' (Kd.S_new' (Kd.S_new' (Kd.S_new' (Kd.S_new' ho4 (Kd.R_lt (Kd.R_mv HO247))) (Kd.R_lt (Kd.R_mv HO250))) (Kd.R_lt (Kd.R_mv HO255))) (Kd.R_lt (Kd.R_mv HO258))) (Kd.S_lt (Kd.S_mv HO261))) (Kd.S_lt (Kd.S_mv HO264))) (Kd.R_lt (Kd.R_mv HO270))) (Kd.R_lt (Kd.R_mv HO273))) (Kd.R_lt (Kd.R_mv HO278))) (Kd.R_lt (Kd.R_mv HO281))) (Kd.S_lt (Kd.S_mv HO284))) (Kd.S_lt (Kd.S_mv HO287))) (Kd.R_lt (Kd.R_mv HO294))) (Kd.R_lt (Kd.R_mv HO297))) (Kd.R_lt (Kd.R_mv HO302))) (Kd.R_lt (Kd.R_mv HO305))) (Kd.S_lt (Kd.S_mv HO308))) (Kd.S_lt (Kd.S_mv HO311))) (Kd.R_lt (Kd.R_mv HO318))) (Kd.R_lt (Kd.R_mv HO321))) (Kd.R_lt (Kd.R_mv HO326))) (Kd.R_lt (Kd.R_mv HO329))) (Kd.S_lt (Kd.S_mv HO332))) (Kd.S_lt (Kd.S_mv HO335))) (below_size (by repeat (first | (with_reducible first | exact HB.out | apply below_alloc | apply pw_below_drewN | apply below_drew1 | refine below_set ?_ GE238.out | refine below_set ?_ GE239.out | refine below_set ?_ GE312.out | refine below_set ?_ GE336.out) | exact HB.out))))
      have n29_ := Aside0.mk (Kd.S_lower (Kd.S_new' (Kd.S_new' (Kd.S_new' (Kd.S_new' (Kd.S_new' (Kd.S_new' (Kd.S_new' (Kd.S_new' (Kd.S_new' (Kd.S_new' (Kd.S_new' (Kd.S_new' (Kd.S_new' (Kd.S_new' (Kd.S_new' (Kd.S_new' (Kd.S_new' (Kd.S_new' (Kd.S_new' (Kd.S_new' (Kd.S_new' (Kd.S_new' (Kd.S_new' (Kd.S_new' ho5 (Kd.R_lt (Kd.R_mv HO247))) (Kd.R_lt (Kd.R_mv HO250))) (Kd.R_lt (Kd.R_mv HO255))) (Kd.R_lt (Kd.R_mv HO258))) (Kd.S_lt (Kd.S_mv HO261))) (Kd.S_lt (Kd.S_mv HO264))) (Kd.R_lt (Kd.R_mv HO270))) (Kd.R_lt (Kd.R_mv HO273))) (Kd.R_lt (Kd.R_mv HO278))) (Kd.R_lt (Kd.R_mv HO281))) (Kd.S_lt (Kd.S_mv HO284))) (Kd.S_lt (Kd.S_mv HO287))) (Kd.R_lt (Kd.R_mv HO294))) (Kd.R_lt (Kd.R_mv HO297))) (Kd.R_lt (Kd.R_mv HO302))) (Kd.R_lt (Kd.R_mv HO305))) (Kd.S_lt (Kd.S_mv HO308))) (Kd.S_lt (Kd.S_mv HO311))) (Kd.R_lt (Kd.R_mv HO318))) (Kd.R_lt (Kd.R_mv HO321))) (Kd.R_lt (Kd.R_mv HO326))) (Kd.R_lt (Kd.R_mv HO329))) (Kd.S_lt (Kd.S_mv HO332))) (Kd.S_lt (Kd.S_mv HO335))) (below_size (by repeat (first | (with_reducible first | exact HB.out | apply below_alloc | apply pw_below_drewN | apply below_drew1 | refine below_set ?_ GE238.out | refine below_set ?_ GE239.out | refine below_set ?_ GE312.out | refine below_set ?_ GE336.out) | exact HB.out))))
      have n30_ := Aside0.mk (blk_below (g := gb238) (o := .cells #[.int .i64 a0_0, .int .i64 a0_1, .int .i64 a0_2, .slice A0_3 l0_3.length c0_3, .slice A0_4 l0_4.length c0_4, .int .i64 a0_5, .int .i64 a0_6, .slice A0_7 l0_7.length c0_7, .slice A0_8 l0_8.length c0_8, .slice A0_9 l0_9.length c0_9, .slice A0_10 l0_10.length c0_10] 64 (0, 0)) (blk_mv BK238) hb)
      have n31_ := Aside0.mk (blk_below (g := gb239) (o := .cells #[.int .i64 a1_0, .int .i64 a1_1, .int .i64 a1_2, .slice A1_3 l1_3.length c1_3, .slice A1_4 l1_4.length c1_4, .int .i64 a1_5, .int .i64 a1_6, .slice A1_7 l1_7.length c1_7, .slice A1_8 l1_8.length c1_8, .slice A1_9 l1_9.length c1_9, .slice A1_10 l1_10.length c1_10] 64 (0, 0)) (blk_mv BK239) hb)
      have n32_ := Aside0.mk (blk_below (g := gb312) (o := .cells #[.int .i64 t289, .int .i64 t290, .int .i64 t291, .slice Ao53 t292.length co53, .slice Ao54 t295.length co54, .int .i64 t298, .int .i64 t299, .slice Ao55 t300.length co55, .slice Ao56 t303.length co56, .slice Ao57 t306.length co57, .slice Ao58 t309.length co58] 68 (0, 0)) (blk_mv BK312) hb)
      have n33_ := Aside0.mk (blk_below (g := gb336) (o := .cells #[.int .i64 t313, .int .i64 t314, .int .i64 t315, .slice Ao66 t316.length co66, .slice Ao67 t319.length co67, .int .i64 t322, .int .i64 t323, .slice Ao68 t324.length co68, .slice Ao69 t327.length co69, .slice Ao70 t330.length co70, .slice Ao71 t333.length co71] 68 (0, 0)) (blk_mv BK336) hb)
      have n34_ := Aside0.mk (below_step (by repeat (first | (with_reducible first | exact HB.out | apply below_alloc | apply pw_below_drewN | apply below_drew1 | refine below_set ?_ GE238.out | refine below_set ?_ GE239.out | refine below_set ?_ GE312.out | refine below_set ?_ GE336.out) | exact HB.out)) hb)
      clear HO247
      clear HO250
      clear HO255
      clear HO258
      clear HO261
      clear HO264
      clear HO270
      clear HO273
      clear HO278
      clear HO281
      clear HO284
      clear HO287
      clear HO294
      clear HO297
      clear HO302
      clear HO305
      clear HO308
      clear HO311
      clear HO318
      clear HO321
      clear HO326
      clear HO329
      clear HO332
      clear HO335
      clear BK238
      clear BK239
      clear BK312
      clear BK336
      clear HB
      have HO247 := n0_
      have HO250 := n1_
      have HO255 := n2_
      have HO258 := n3_
      have HO261 := n4_
      have HO264 := n5_
      have HO270 := n6_
      have HO273 := n7_
      have HO278 := n8_
      have HO281 := n9_
      have HO284 := n10_
      have HO287 := n11_
      have HO294 := n12_
      have HO297 := n13_
      have HO302 := n14_
      have HO305 := n15_
      have HO308 := n16_
      have HO311 := n17_
      have HO318 := n18_
      have HO321 := n19_
      have HO326 := n20_
      have HO329 := n21_
      have HO332 := n22_
      have HO335 := n23_
      have HO343 := n24_
      have HO346 := n25_
      have HO351 := n26_
      have HO354 := n27_
      have HO357 := n28_
      have HO360 := n29_
      have BK238 := n30_
      have BK239 := n31_
      have BK312 := n32_
      have BK336 := n33_
      have HB := n34_
      clear n0_ n1_ n2_ n3_ n4_ n5_ n6_ n7_ n8_ n9_ n10_ n11_ n12_ n13_ n14_ n15_ n16_ n17_ n18_ n19_ n20_ n21_ n22_ n23_ n24_ n25_ n26_ n27_ n28_ n29_ n30_ n31_ n32_ n33_ n34_
      (try clear hb)
      (try clear hb2)
      (try clear hk)
      (try clear hi)
      (try clear ho0)
      (try clear ho1)
      (try clear ho2)
      (try clear ho3)
      (try clear ho4)
      (try clear ho5)
      obtain ⟨Ao76, co76, eo76⟩ := Kd.R_slice HO343.out
      (first | subst eo76 | (injection eo76 with f1_ f2_ f3_; have f4_ := f1_.symm; have f5_ := f3_.symm; clear f1_ f2_ f3_; subst f4_; subst f5_))
      obtain ⟨Ao77, co77, eo77⟩ := Kd.R_slice HO346.out
      (first | subst eo77 | (injection eo77 with f1_ f2_ f3_; have f4_ := f1_.symm; have f5_ := f3_.symm; clear f1_ f2_ f3_; subst f4_; subst f5_))
      obtain ⟨Ao78, co78, eo78⟩ := Kd.R_slice HO351.out
      (first | subst eo78 | (injection eo78 with f1_ f2_ f3_; have f4_ := f1_.symm; have f5_ := f3_.symm; clear f1_ f2_ f3_; subst f4_; subst f5_))
      obtain ⟨Ao79, co79, eo79⟩ := Kd.R_slice HO354.out
      (first | subst eo79 | (injection eo79 with f1_ f2_ f3_; have f4_ := f1_.symm; have f5_ := f3_.symm; clear f1_ f2_ f3_; subst f4_; subst f5_))
      obtain ⟨Ao80, co80, eo80⟩ := Kd.S_slice HO357.out
      (first | subst eo80 | (injection eo80 with f1_ f2_ f3_; have f4_ := f1_.symm; have f5_ := f3_.symm; clear f1_ f2_ f3_; subst f4_; subst f5_))
      obtain ⟨Ao81, co81, eo81⟩ := Kd.S_slice HO360.out
      (first | subst eo81 | (injection eo81 with f1_ f2_ f3_; have f4_ := f1_.symm; have f5_ := f3_.symm; clear f1_ f2_ f3_; subst f4_; subst f5_))
      refine hK.out _ _ ⟨(blk_cell BK312.out 0).trans rfl, (blk_cell BK312.out 1).trans rfl, (blk_cell BK312.out 2).trans rfl, (blk_cell BK312.out 3).trans rfl, (blk_cell BK312.out 4).trans rfl, (blk_cell BK312.out 5).trans rfl, (blk_cell BK312.out 6).trans rfl, (blk_cell BK312.out 7).trans rfl, (blk_cell BK312.out 8).trans rfl, (blk_cell BK312.out 9).trans rfl, (blk_cell BK312.out 10).trans rfl, (blk_cell BK238.out 0).trans rfl, (blk_cell BK238.out 1).trans rfl, (blk_cell BK238.out 2).trans rfl, (blk_cell BK238.out 3).trans rfl, (blk_cell BK238.out 4).trans rfl, (blk_cell BK238.out 5).trans rfl, (blk_cell BK238.out 6).trans rfl, (blk_cell BK238.out 7).trans rfl, (blk_cell BK238.out 8).trans rfl, (blk_cell BK238.out 9).trans rfl, (blk_cell BK238.out 10).trans rfl⟩ (fun hHeld => ?_)
      clear hK K
      refine norm_ (a' := ?_) ?_ ?_
      rotate_left
      ·show Act.put _ (some 37) _ = _
       simp only [Act.put, List.setIfInBounds_toArray, List.set_cons_zero, List.set_cons_succ, i64_w, i32_w]
       rfl
      refine one_ (i := 3) (N := some 38) #[true, true, true, true, false] rfl rfl (by kernel_rfl) (by decide) (fun K hK => ?_)
      refine goes_ Try.func40 (by kernel_rfl) rfl #[.agg #[.int .i64 t289, .int .i64 t290, .int .i64 t291, .slice Ao53 t292.length co53, .slice Ao54 t295.length co54, .int .i64 t298, .int .i64 t299, .slice Ao55 t300.length co55, .slice Ao56 t303.length co56, .slice Ao57 t306.length co57, .slice Ao58 t309.length co58], .agg #[.int .i64 t338, .int .i64 t339, .int .i64 t340, .slice Ao76 t341.length co76, .slice Ao77 t344.length co77, .int .i64 t347, .int .i64 t348, .slice Ao78 t349.length co78, .slice Ao79 t352.length co79, .slice Ao80 t355.length co80, .slice Ao81 t358.length co81]] (by rfl) rfl rfl (by (try simp only [List.map_toArray, List.map_cons, List.map_nil]); first | done | rfl | (simp only [List.length_drop, List.length_take]; rfl)) ?_
      with_reducible refine (laws_eqBlock.calls k t289 t290 t291 _ _ t292 _ _ t295 t298 t299 _ _ t300 _ _ t303 _ _ t306 _ _ t309 t338 t339 t340 _ _ t341 _ _ t344 t347 t348 _ _ t349 _ _ t352 _ _ t355 _ _ t358 true _ ?side1 ?side2 ?side3 ?side4 ?side5 ?side6 ?side7 ?side8 ?side9 ?side10 ?side11 ?side12 ?side13 ?side14 ?side15 ?side16 ?side17 ?side18 ?side19 ?side20 ?side21 ?side22 ?side23 ?side24 A25.out).mono ?_
      (case side1 => repeat (first | exact (Kd.R_reads' HO294.out).2.2 | (with_reducible refine Kd.C_alloc ?_ _) | (with_reducible refine Kd.C_drewN ?_ _) | (with_reducible refine Kd.C_drew ?_)))
      (case side2 => exact (Kd.R_reads' HO294.out).2.1)
      (case side3 => repeat (first | exact (Kd.R_reads' HO297.out).2.2 | (with_reducible refine Kd.C_alloc ?_ _) | (with_reducible refine Kd.C_drewN ?_ _) | (with_reducible refine Kd.C_drew ?_)))
      (case side4 => exact (Kd.R_reads' HO297.out).2.1)
      (case side5 => repeat (first | exact (Kd.R_reads' HO302.out).2.2 | (with_reducible refine Kd.C_alloc ?_ _) | (with_reducible refine Kd.C_drewN ?_ _) | (with_reducible refine Kd.C_drew ?_)))
      (case side6 => exact (Kd.R_reads' HO302.out).2.1)
      (case side7 => repeat (first | exact (Kd.R_reads' HO305.out).2.2 | (with_reducible refine Kd.C_alloc ?_ _) | (with_reducible refine Kd.C_drewN ?_ _) | (with_reducible refine Kd.C_drew ?_)))
      (case side8 => exact (Kd.R_reads' HO305.out).2.1)
      (case side9 => repeat (first | exact (Kd.S_reads' HO308.out).2.2 | (with_reducible refine Kd.C_alloc ?_ _) | (with_reducible refine Kd.C_drewN ?_ _) | (with_reducible refine Kd.C_drew ?_)))
      (case side10 => exact (Kd.S_reads' HO308.out).2.1)
      (case side11 => repeat (first | exact (Kd.S_reads' HO311.out).2.2 | (with_reducible refine Kd.C_alloc ?_ _) | (with_reducible refine Kd.C_drewN ?_ _) | (with_reducible refine Kd.C_drew ?_)))
      (case side12 => exact (Kd.S_reads' HO311.out).2.1)
      (case side13 => repeat (first | exact (Kd.R_reads' HO343.out).2.2 | (with_reducible refine Kd.C_alloc ?_ _) | (with_reducible refine Kd.C_drewN ?_ _) | (with_reducible refine Kd.C_drew ?_)))
      (case side14 => exact (Kd.R_reads' HO343.out).2.1)
      (case side15 => repeat (first | exact (Kd.R_reads' HO346.out).2.2 | (with_reducible refine Kd.C_alloc ?_ _) | (with_reducible refine Kd.C_drewN ?_ _) | (with_reducible refine Kd.C_drew ?_)))
      (case side16 => exact (Kd.R_reads' HO346.out).2.1)
      (case side17 => repeat (first | exact (Kd.R_reads' HO351.out).2.2 | (with_reducible refine Kd.C_alloc ?_ _) | (with_reducible refine Kd.C_drewN ?_ _) | (with_reducible refine Kd.C_drew ?_)))
      (case side18 => exact (Kd.R_reads' HO351.out).2.1)
      (case side19 => repeat (first | exact (Kd.R_reads' HO354.out).2.2 | (with_reducible refine Kd.C_alloc ?_ _) | (with_reducible refine Kd.C_drewN ?_ _) | (with_reducible refine Kd.C_drew ?_)))
      (case side20 => exact (Kd.R_reads' HO354.out).2.1)
      (case side21 => repeat (first | exact (Kd.S_reads' HO357.out).2.2 | (with_reducible refine Kd.C_alloc ?_ _) | (with_reducible refine Kd.C_drewN ?_ _) | (with_reducible refine Kd.C_drew ?_)))
      (case side22 => exact (Kd.S_reads' HO357.out).2.1)
      (case side23 => repeat (first | exact (Kd.S_reads' HO360.out).2.2 | (with_reducible refine Kd.C_alloc ?_ _) | (with_reducible refine Kd.C_drewN ?_ _) | (with_reducible refine Kd.C_drew ?_)))
      (case side24 => exact (Kd.S_reads' HO360.out).2.1)
      rintro e w82 ⟨rfl, hb⟩
      refine ⟨_, rfl, ?_⟩
      have n0_ := Aside0.mk (Kd.R_below (Kd.R_mv HO247) hb)
      have n1_ := Aside0.mk (Kd.R_below (Kd.R_mv HO250) hb)
      have n2_ := Aside0.mk (Kd.R_below (Kd.R_mv HO255) hb)
      have n3_ := Aside0.mk (Kd.R_below (Kd.R_mv HO258) hb)
      have n4_ := Aside0.mk (Kd.S_below (Kd.S_mv HO261) hb)
      have n5_ := Aside0.mk (Kd.S_below (Kd.S_mv HO264) hb)
      have n6_ := Aside0.mk (Kd.R_below (Kd.R_mv HO270) hb)
      have n7_ := Aside0.mk (Kd.R_below (Kd.R_mv HO273) hb)
      have n8_ := Aside0.mk (Kd.R_below (Kd.R_mv HO278) hb)
      have n9_ := Aside0.mk (Kd.R_below (Kd.R_mv HO281) hb)
      have n10_ := Aside0.mk (Kd.S_below (Kd.S_mv HO284) hb)
      have n11_ := Aside0.mk (Kd.S_below (Kd.S_mv HO287) hb)
      have n12_ := Aside0.mk (Kd.R_below (Kd.R_mv HO294) hb)
      have n13_ := Aside0.mk (Kd.R_below (Kd.R_mv HO297) hb)
      have n14_ := Aside0.mk (Kd.R_below (Kd.R_mv HO302) hb)
      have n15_ := Aside0.mk (Kd.R_below (Kd.R_mv HO305) hb)
      have n16_ := Aside0.mk (Kd.S_below (Kd.S_mv HO308) hb)
      have n17_ := Aside0.mk (Kd.S_below (Kd.S_mv HO311) hb)
      have n18_ := Aside0.mk (Kd.R_below (Kd.R_mv HO318) hb)
      have n19_ := Aside0.mk (Kd.R_below (Kd.R_mv HO321) hb)
      have n20_ := Aside0.mk (Kd.R_below (Kd.R_mv HO326) hb)
      have n21_ := Aside0.mk (Kd.R_below (Kd.R_mv HO329) hb)
      have n22_ := Aside0.mk (Kd.S_below (Kd.S_mv HO332) hb)
      have n23_ := Aside0.mk (Kd.S_below (Kd.S_mv HO335) hb)
      have n24_ := Aside0.mk (Kd.R_below (Kd.R_mv HO343) hb)
      have n25_ := Aside0.mk (Kd.R_below (Kd.R_mv HO346) hb)
      have n26_ := Aside0.mk (Kd.R_below (Kd.R_mv HO351) hb)
      have n27_ := Aside0.mk (Kd.R_below (Kd.R_mv HO354) hb)
      have n28_ := Aside0.mk (Kd.S_below (Kd.S_mv HO357) hb)
      have n29_ := Aside0.mk (Kd.S_below (Kd.S_mv HO360) hb)
      have n30_ := Aside0.mk (blk_below (g := gb238) (o := .cells #[.int .i64 a0_0, .int .i64 a0_1, .int .i64 a0_2, .slice A0_3 l0_3.length c0_3, .slice A0_4 l0_4.length c0_4, .int .i64 a0_5, .int .i64 a0_6, .slice A0_7 l0_7.length c0_7, .slice A0_8 l0_8.length c0_8, .slice A0_9 l0_9.length c0_9, .slice A0_10 l0_10.length c0_10] 64 (0, 0)) (blk_mv BK238) hb)
      have n31_ := Aside0.mk (blk_below (g := gb239) (o := .cells #[.int .i64 a1_0, .int .i64 a1_1, .int .i64 a1_2, .slice A1_3 l1_3.length c1_3, .slice A1_4 l1_4.length c1_4, .int .i64 a1_5, .int .i64 a1_6, .slice A1_7 l1_7.length c1_7, .slice A1_8 l1_8.length c1_8, .slice A1_9 l1_9.length c1_9, .slice A1_10 l1_10.length c1_10] 64 (0, 0)) (blk_mv BK239) hb)
      have n32_ := Aside0.mk (blk_below (g := gb312) (o := .cells #[.int .i64 t289, .int .i64 t290, .int .i64 t291, .slice Ao53 t292.length co53, .slice Ao54 t295.length co54, .int .i64 t298, .int .i64 t299, .slice Ao55 t300.length co55, .slice Ao56 t303.length co56, .slice Ao57 t306.length co57, .slice Ao58 t309.length co58] 68 (0, 0)) (blk_mv BK312) hb)
      have n33_ := Aside0.mk (blk_below (g := gb336) (o := .cells #[.int .i64 t313, .int .i64 t314, .int .i64 t315, .slice Ao66 t316.length co66, .slice Ao67 t319.length co67, .int .i64 t322, .int .i64 t323, .slice Ao68 t324.length co68, .slice Ao69 t327.length co69, .slice Ao70 t330.length co70, .slice Ao71 t333.length co71] 68 (0, 0)) (blk_mv BK336) hb)
      have n34_ := Aside0.mk (below_step (by repeat (first | (with_reducible first | exact HB.out | apply below_alloc | apply pw_below_drewN | apply below_drew1 | refine below_set ?_ GE238.out | refine below_set ?_ GE239.out | refine below_set ?_ GE312.out | refine below_set ?_ GE336.out) | exact HB.out)) hb)
      clear HO247
      clear HO250
      clear HO255
      clear HO258
      clear HO261
      clear HO264
      clear HO270
      clear HO273
      clear HO278
      clear HO281
      clear HO284
      clear HO287
      clear HO294
      clear HO297
      clear HO302
      clear HO305
      clear HO308
      clear HO311
      clear HO318
      clear HO321
      clear HO326
      clear HO329
      clear HO332
      clear HO335
      clear HO343
      clear HO346
      clear HO351
      clear HO354
      clear HO357
      clear HO360
      clear BK238
      clear BK239
      clear BK312
      clear BK336
      clear HB
      have HO247 := n0_
      have HO250 := n1_
      have HO255 := n2_
      have HO258 := n3_
      have HO261 := n4_
      have HO264 := n5_
      have HO270 := n6_
      have HO273 := n7_
      have HO278 := n8_
      have HO281 := n9_
      have HO284 := n10_
      have HO287 := n11_
      have HO294 := n12_
      have HO297 := n13_
      have HO302 := n14_
      have HO305 := n15_
      have HO308 := n16_
      have HO311 := n17_
      have HO318 := n18_
      have HO321 := n19_
      have HO326 := n20_
      have HO329 := n21_
      have HO332 := n22_
      have HO335 := n23_
      have HO343 := n24_
      have HO346 := n25_
      have HO351 := n26_
      have HO354 := n27_
      have HO357 := n28_
      have HO360 := n29_
      have BK238 := n30_
      have BK239 := n31_
      have BK312 := n32_
      have BK336 := n33_
      have HB := n34_
      clear n0_ n1_ n2_ n3_ n4_ n5_ n6_ n7_ n8_ n9_ n10_ n11_ n12_ n13_ n14_ n15_ n16_ n17_ n18_ n19_ n20_ n21_ n22_ n23_ n24_ n25_ n26_ n27_ n28_ n29_ n30_ n31_ n32_ n33_ n34_
      (try clear hb)
      (try clear hb2)
      (try clear hk)
      (try clear hi)
      refine hK.out _ _ ⟨(blk_cell BK312.out 0).trans rfl, (blk_cell BK312.out 1).trans rfl, (blk_cell BK312.out 2).trans rfl, (blk_cell BK312.out 3).trans rfl, (blk_cell BK312.out 4).trans rfl, (blk_cell BK312.out 5).trans rfl, (blk_cell BK312.out 6).trans rfl, (blk_cell BK312.out 7).trans rfl, (blk_cell BK312.out 8).trans rfl, (blk_cell BK312.out 9).trans rfl, (blk_cell BK312.out 10).trans rfl, (blk_cell BK238.out 0).trans rfl, (blk_cell BK238.out 1).trans rfl, (blk_cell BK238.out 2).trans rfl, (blk_cell BK238.out 3).trans rfl, (blk_cell BK238.out 4).trans rfl, (blk_cell BK238.out 5).trans rfl, (blk_cell BK238.out 6).trans rfl, (blk_cell BK238.out 7).trans rfl, (blk_cell BK238.out 8).trans rfl, (blk_cell BK238.out 9).trans rfl, (blk_cell BK238.out 10).trans rfl⟩ (fun hHeld => ?_)
      clear hK K
      refine norm_ (a' := ?_) ?_ ?_
      rotate_left
      ·show Act.put _ (some 38) _ = _
       simp only [Act.put, List.setIfInBounds_toArray, List.set_cons_zero, List.set_cons_succ, i64_w, i32_w]
       rfl
      refine pure_ (i := 4) (N := some 39) (v := ?_) (a' := ?_) #[true, true, true, true, true] rfl rfl (by kernel_rfl) (fun _ _ _ h => h) (Or.inl ⟨by rfl, ?_⟩) ?_ ?_
      rotate_left
      ·intro w'
       go_simp
       with_reducible rfl
      rotate_left
      ·simp only [Act.put, List.setIfInBounds_toArray, List.set_cons_zero, List.set_cons_succ, i64_w, i32_w]
       rfl
      refine done_ (by kernel_rfl) ?_
      try go_wp2
      have n0_ := Aside0.mk (Kd.R_drew HO247.out)
      have n1_ := Aside0.mk (Kd.R_drew HO250.out)
      have n2_ := Aside0.mk (Kd.R_drew HO255.out)
      have n3_ := Aside0.mk (Kd.R_drew HO258.out)
      have n4_ := Aside0.mk (Kd.S_drew HO261.out)
      have n5_ := Aside0.mk (Kd.S_drew HO264.out)
      have n6_ := Aside0.mk (Kd.R_drew HO270.out)
      have n7_ := Aside0.mk (Kd.R_drew HO273.out)
      have n8_ := Aside0.mk (Kd.R_drew HO278.out)
      have n9_ := Aside0.mk (Kd.R_drew HO281.out)
      have n10_ := Aside0.mk (Kd.S_drew HO284.out)
      have n11_ := Aside0.mk (Kd.S_drew HO287.out)
      have n12_ := Aside0.mk (Kd.R_drew HO294.out)
      have n13_ := Aside0.mk (Kd.R_drew HO297.out)
      have n14_ := Aside0.mk (Kd.R_drew HO302.out)
      have n15_ := Aside0.mk (Kd.R_drew HO305.out)
      have n16_ := Aside0.mk (Kd.S_drew HO308.out)
      have n17_ := Aside0.mk (Kd.S_drew HO311.out)
      have n18_ := Aside0.mk (Kd.R_drew HO318.out)
      have n19_ := Aside0.mk (Kd.R_drew HO321.out)
      have n20_ := Aside0.mk (Kd.R_drew HO326.out)
      have n21_ := Aside0.mk (Kd.R_drew HO329.out)
      have n22_ := Aside0.mk (Kd.S_drew HO332.out)
      have n23_ := Aside0.mk (Kd.S_drew HO335.out)
      have n24_ := Aside0.mk (Kd.R_drew HO343.out)
      have n25_ := Aside0.mk (Kd.R_drew HO346.out)
      have n26_ := Aside0.mk (Kd.R_drew HO351.out)
      have n27_ := Aside0.mk (Kd.R_drew HO354.out)
      have n28_ := Aside0.mk (Kd.S_drew HO357.out)
      have n29_ := Aside0.mk (Kd.S_drew HO360.out)
      have n30_ := Aside0.mk (blk_drew BK238.out)
      have n31_ := Aside0.mk (blk_drew BK239.out)
      have n32_ := Aside0.mk (blk_drew BK312.out)
      have n33_ := Aside0.mk (blk_drew BK336.out)
      have n34_ := Aside0.mk (below_drew1 HB.out)
      clear HO247
      clear HO250
      clear HO255
      clear HO258
      clear HO261
      clear HO264
      clear HO270
      clear HO273
      clear HO278
      clear HO281
      clear HO284
      clear HO287
      clear HO294
      clear HO297
      clear HO302
      clear HO305
      clear HO308
      clear HO311
      clear HO318
      clear HO321
      clear HO326
      clear HO329
      clear HO332
      clear HO335
      clear HO343
      clear HO346
      clear HO351
      clear HO354
      clear HO357
      clear HO360
      clear BK238
      clear BK239
      clear BK312
      clear BK336
      clear HB
      have HO247 := n0_
      have HO250 := n1_
      have HO255 := n2_
      have HO258 := n3_
      have HO261 := n4_
      have HO264 := n5_
      have HO270 := n6_
      have HO273 := n7_
      have HO278 := n8_
      have HO281 := n9_
      have HO284 := n10_
      have HO287 := n11_
      have HO294 := n12_
      have HO297 := n13_
      have HO302 := n14_
      have HO305 := n15_
      have HO308 := n16_
      have HO311 := n17_
      have HO318 := n18_
      have HO321 := n19_
      have HO326 := n20_
      have HO329 := n21_
      have HO332 := n22_
      have HO335 := n23_
      have HO343 := n24_
      have HO346 := n25_
      have HO351 := n26_
      have HO354 := n27_
      have HO357 := n28_
      have HO360 := n29_
      have BK238 := n30_
      have BK239 := n31_
      have BK312 := n32_
      have BK336 := n33_
      have HB := n34_
      clear n0_ n1_ n2_ n3_ n4_ n5_ n6_ n7_ n8_ n9_ n10_ n11_ n12_ n13_ n14_ n15_ n16_ n17_ n18_ n19_ n20_ n21_ n22_ n23_ n24_ n25_ n26_ n27_ n28_ n29_ n30_ n31_ n32_ n33_ n34_
      refine start_ (n := 5) (S := fun w' => w'.cell? ⟨gb336, 0, none⟩ = some (.int .i64 t313) ∧ w'.cell? ⟨gb336, 1, none⟩ = some (.int .i64 t314) ∧ w'.cell? ⟨gb336, 2, none⟩ = some (.int .i64 t315) ∧ w'.cell? ⟨gb336, 3, none⟩ = some (.slice Ao66 t316.length co66) ∧ w'.cell? ⟨gb336, 4, none⟩ = some (.slice Ao67 t319.length co67) ∧ w'.cell? ⟨gb336, 5, none⟩ = some (.int .i64 t322) ∧ w'.cell? ⟨gb336, 6, none⟩ = some (.int .i64 t323) ∧ w'.cell? ⟨gb336, 7, none⟩ = some (.slice Ao68 t324.length co68) ∧ w'.cell? ⟨gb336, 8, none⟩ = some (.slice Ao69 t327.length co69) ∧ w'.cell? ⟨gb336, 9, none⟩ = some (.slice Ao70 t330.length co70) ∧ w'.cell? ⟨gb336, 10, none⟩ = some (.slice Ao71 t333.length co71) ∧ w'.cell? ⟨gb239, 0, none⟩ = some (.int .i64 a1_0) ∧ w'.cell? ⟨gb239, 1, none⟩ = some (.int .i64 a1_1) ∧ w'.cell? ⟨gb239, 2, none⟩ = some (.int .i64 a1_2) ∧ w'.cell? ⟨gb239, 3, none⟩ = some (.slice A1_3 l1_3.length c1_3) ∧ w'.cell? ⟨gb239, 4, none⟩ = some (.slice A1_4 l1_4.length c1_4) ∧ w'.cell? ⟨gb239, 5, none⟩ = some (.int .i64 a1_5) ∧ w'.cell? ⟨gb239, 6, none⟩ = some (.int .i64 a1_6) ∧ w'.cell? ⟨gb239, 7, none⟩ = some (.slice A1_7 l1_7.length c1_7) ∧ w'.cell? ⟨gb239, 8, none⟩ = some (.slice A1_8 l1_8.length c1_8) ∧ w'.cell? ⟨gb239, 9, none⟩ = some (.slice A1_9 l1_9.length c1_9) ∧ w'.cell? ⟨gb239, 10, none⟩ = some (.slice A1_10 l1_10.length c1_10)) (ds := []) #[false, false, false, false, false] (by kernel_rfl) rfl rfl ⟨(blk_cell BK336.out 0).trans rfl, (blk_cell BK336.out 1).trans rfl, (blk_cell BK336.out 2).trans rfl, (blk_cell BK336.out 3).trans rfl, (blk_cell BK336.out 4).trans rfl, (blk_cell BK336.out 5).trans rfl, (blk_cell BK336.out 6).trans rfl, (blk_cell BK336.out 7).trans rfl, (blk_cell BK336.out 8).trans rfl, (blk_cell BK336.out 9).trans rfl, (blk_cell BK336.out 10).trans rfl, (blk_cell BK239.out 0).trans rfl, (blk_cell BK239.out 1).trans rfl, (blk_cell BK239.out 2).trans rfl, (blk_cell BK239.out 3).trans rfl, (blk_cell BK239.out 4).trans rfl, (blk_cell BK239.out 5).trans rfl, (blk_cell BK239.out 6).trans rfl, (blk_cell BK239.out 7).trans rfl, (blk_cell BK239.out 8).trans rfl, (blk_cell BK239.out 9).trans rfl, (blk_cell BK239.out 10).trans rfl⟩ (fun hHeld => ?_)
      generalize w82.drew = w83 at HO247 HO250 HO255 HO258 HO261 HO264 HO270 HO273 HO278 HO281 HO284 HO287 HO294 HO297 HO302 HO305 HO308 HO311 HO318 HO321 HO326 HO329 HO332 HO335 HO343 HO346 HO351 HO354 HO357 HO360 BK238 BK239 BK312 BK336 HB hHeld ⊢
      refine take_ (i := 0) (N := some 40) (v := ?_) (a' := ?_) #[true, false, false, false, false] rfl rfl (by kernel_rfl) (fun _ _ _ h => h) (Or.inl ⟨by rfl, ?_⟩) hHeld ?_ ?_
      rotate_left
      ·rintro w' ⟨s0, s1, s2, s3, s4, s5, s6, s7, s8, s9, s10, s11, s12, s13, s14, s15, s16, s17, s18, s19, s20, s21⟩
       go_simp
       with_reducible rfl
      rotate_left
      ·simp only [Act.put, List.setIfInBounds_toArray, List.set_cons_zero, List.set_cons_succ, i64_w, i32_w]
       rfl
      refine take_ (i := 1) (N := some 41) (v := ?_) (a' := ?_) #[true, true, false, false, false] rfl rfl (by kernel_rfl) (fun _ _ _ h => h) (Or.inl ⟨by rfl, ?_⟩) hHeld ?_ ?_
      rotate_left
      ·rintro w' ⟨s0, s1, s2, s3, s4, s5, s6, s7, s8, s9, s10, s11, s12, s13, s14, s15, s16, s17, s18, s19, s20, s21⟩
       go_simp
       with_reducible rfl
      rotate_left
      ·simp only [Act.put, List.setIfInBounds_toArray, List.set_cons_zero, List.set_cons_succ, i64_w, i32_w]
       rfl
      refine one_ (i := 2) (N := some 42) #[true, true, true, false, false] rfl rfl (by kernel_rfl) (by decide) (fun K hK => ?_)
      refine goes_ Try.func38 (by kernel_rfl) rfl #[.agg #[.int .i64 a1_0, .int .i64 a1_1, .int .i64 a1_2, .slice A1_3 l1_3.length c1_3, .slice A1_4 l1_4.length c1_4, .int .i64 a1_5, .int .i64 a1_6, .slice A1_7 l1_7.length c1_7, .slice A1_8 l1_8.length c1_8, .slice A1_9 l1_9.length c1_9, .slice A1_10 l1_10.length c1_10]] (by rfl) rfl rfl (by (try simp only [List.map_toArray, List.map_cons, List.map_nil]); first | done | rfl | (simp only [List.length_drop, List.length_take]; rfl)) ?_
      with_reducible refine (laws_toBlock.calls k a1_0 a1_1 a1_2 _ _ l1_3 _ _ l1_4 a1_5 a1_6 _ _ l1_7 _ _ l1_8 _ _ l1_9 _ _ l1_10 t362 t363 t364 t365 t368 t371 t372 t373 t376 t379 t382 _ ?side1 ?side2 ?side3 ?side4 ?side5 ?side6 ?side7 ?side8 ?side9 ?side10 ?side11 ?side12 A27.out).mono ?_
      (case side1 => repeat (first | exact (Kd.C_below HR1_3.out HB.out) | (with_reducible refine Kd.C_alloc ?_ _) | (with_reducible refine Kd.C_drewN ?_ _) | (with_reducible refine Kd.C_drew ?_)))
      (case side2 => exact HC1_3.out)
      (case side3 => repeat (first | exact (Kd.C_below HR1_4.out HB.out) | (with_reducible refine Kd.C_alloc ?_ _) | (with_reducible refine Kd.C_drewN ?_ _) | (with_reducible refine Kd.C_drew ?_)))
      (case side4 => exact HC1_4.out)
      (case side5 => repeat (first | exact (Kd.C_below HR1_7.out HB.out) | (with_reducible refine Kd.C_alloc ?_ _) | (with_reducible refine Kd.C_drewN ?_ _) | (with_reducible refine Kd.C_drew ?_)))
      (case side6 => exact HC1_7.out)
      (case side7 => repeat (first | exact (Kd.C_below HR1_8.out HB.out) | (with_reducible refine Kd.C_alloc ?_ _) | (with_reducible refine Kd.C_drewN ?_ _) | (with_reducible refine Kd.C_drew ?_)))
      (case side8 => exact HC1_8.out)
      (case side9 => repeat (first | exact (Kd.C_below HR1_9.out HB.out) | (with_reducible refine Kd.C_alloc ?_ _) | (with_reducible refine Kd.C_drewN ?_ _) | (with_reducible refine Kd.C_drew ?_)))
      (case side10 => exact HC1_9.out)
      (case side11 => repeat (first | exact (Kd.C_below HR1_10.out HB.out) | (with_reducible refine Kd.C_alloc ?_ _) | (with_reducible refine Kd.C_drewN ?_ _) | (with_reducible refine Kd.C_drew ?_)))
      (case side12 => exact HC1_10.out)
      rintro e w84 ⟨v366, v369, v374, v377, v380, v383, rfl, ho0, ho1, ho2, ho3, ho4, ho5, hb⟩
      refine ⟨_, rfl, ?_⟩
      have n0_ := Aside0.mk (Kd.R_mono (Kd.R_told (Kd.R_told (Kd.R_told (Kd.R_told (Kd.R_old (Kd.R_mv HO247) hb) (Kd.R_base ho0)) (Kd.R_base ho1)) (Kd.R_base ho2)) (Kd.R_base ho3)) (fun _ h_ => h_.1))
      have n1_ := Aside0.mk (Kd.R_mono (Kd.R_told (Kd.R_told (Kd.R_told (Kd.R_told (Kd.R_old (Kd.R_mv HO250) hb) (Kd.R_base ho0)) (Kd.R_base ho1)) (Kd.R_base ho2)) (Kd.R_base ho3)) (fun _ h_ => h_.1))
      have n2_ := Aside0.mk (Kd.R_mono (Kd.R_told (Kd.R_told (Kd.R_told (Kd.R_told (Kd.R_old (Kd.R_mv HO255) hb) (Kd.R_base ho0)) (Kd.R_base ho1)) (Kd.R_base ho2)) (Kd.R_base ho3)) (fun _ h_ => h_.1))
      have n3_ := Aside0.mk (Kd.R_mono (Kd.R_told (Kd.R_told (Kd.R_told (Kd.R_told (Kd.R_old (Kd.R_mv HO258) hb) (Kd.R_base ho0)) (Kd.R_base ho1)) (Kd.R_base ho2)) (Kd.R_base ho3)) (fun _ h_ => h_.1))
      have n4_ := Aside0.mk (Kd.S_mono (Kd.S_told (Kd.S_told (Kd.S_told (Kd.S_told (Kd.S_told (Kd.S_told (Kd.S_old (Kd.S_mv HO261) hb) (Kd.R_base ho0)) (Kd.R_base ho1)) (Kd.R_base ho2)) (Kd.R_base ho3)) (Kd.S_base ho4)) (Kd.S_base ho5)) (fun _ h_ => h_.1))
      have n5_ := Aside0.mk (Kd.S_mono (Kd.S_told (Kd.S_told (Kd.S_told (Kd.S_told (Kd.S_told (Kd.S_told (Kd.S_old (Kd.S_mv HO264) hb) (Kd.R_base ho0)) (Kd.R_base ho1)) (Kd.R_base ho2)) (Kd.R_base ho3)) (Kd.S_base ho4)) (Kd.S_base ho5)) (fun _ h_ => h_.1))
      have n6_ := Aside0.mk (Kd.R_mono (Kd.R_told (Kd.R_told (Kd.R_told (Kd.R_told (Kd.R_old (Kd.R_mv HO270) hb) (Kd.R_base ho0)) (Kd.R_base ho1)) (Kd.R_base ho2)) (Kd.R_base ho3)) (fun _ h_ => h_.1))
      have n7_ := Aside0.mk (Kd.R_mono (Kd.R_told (Kd.R_told (Kd.R_told (Kd.R_told (Kd.R_old (Kd.R_mv HO273) hb) (Kd.R_base ho0)) (Kd.R_base ho1)) (Kd.R_base ho2)) (Kd.R_base ho3)) (fun _ h_ => h_.1))
      have n8_ := Aside0.mk (Kd.R_mono (Kd.R_told (Kd.R_told (Kd.R_told (Kd.R_told (Kd.R_old (Kd.R_mv HO278) hb) (Kd.R_base ho0)) (Kd.R_base ho1)) (Kd.R_base ho2)) (Kd.R_base ho3)) (fun _ h_ => h_.1))
      have n9_ := Aside0.mk (Kd.R_mono (Kd.R_told (Kd.R_told (Kd.R_told (Kd.R_told (Kd.R_old (Kd.R_mv HO281) hb) (Kd.R_base ho0)) (Kd.R_base ho1)) (Kd.R_base ho2)) (Kd.R_base ho3)) (fun _ h_ => h_.1))
      have n10_ := Aside0.mk (Kd.S_mono (Kd.S_told (Kd.S_told (Kd.S_told (Kd.S_told (Kd.S_told (Kd.S_told (Kd.S_old (Kd.S_mv HO284) hb) (Kd.R_base ho0)) (Kd.R_base ho1)) (Kd.R_base ho2)) (Kd.R_base ho3)) (Kd.S_base ho4)) (Kd.S_base ho5)) (fun _ h_ => h_.1))
      have n11_ := Aside0.mk (Kd.S_mono (Kd.S_told (Kd.S_told (Kd.S_told (Kd.S_told (Kd.S_told (Kd.S_told (Kd.S_old (Kd.S_mv HO287) hb) (Kd.R_base ho0)) (Kd.R_base ho1)) (Kd.R_base ho2)) (Kd.R_base ho3)) (Kd.S_base ho4)) (Kd.S_base ho5)) (fun _ h_ => h_.1))
      have n12_ := Aside0.mk (Kd.R_mono (Kd.R_told (Kd.R_told (Kd.R_told (Kd.R_told (Kd.R_old (Kd.R_mv HO294) hb) (Kd.R_base ho0)) (Kd.R_base ho1)) (Kd.R_base ho2)) (Kd.R_base ho3)) (fun _ h_ => h_.1))
      have n13_ := Aside0.mk (Kd.R_mono (Kd.R_told (Kd.R_told (Kd.R_told (Kd.R_told (Kd.R_old (Kd.R_mv HO297) hb) (Kd.R_base ho0)) (Kd.R_base ho1)) (Kd.R_base ho2)) (Kd.R_base ho3)) (fun _ h_ => h_.1))
      have n14_ := Aside0.mk (Kd.R_mono (Kd.R_told (Kd.R_told (Kd.R_told (Kd.R_told (Kd.R_old (Kd.R_mv HO302) hb) (Kd.R_base ho0)) (Kd.R_base ho1)) (Kd.R_base ho2)) (Kd.R_base ho3)) (fun _ h_ => h_.1))
      have n15_ := Aside0.mk (Kd.R_mono (Kd.R_told (Kd.R_told (Kd.R_told (Kd.R_told (Kd.R_old (Kd.R_mv HO305) hb) (Kd.R_base ho0)) (Kd.R_base ho1)) (Kd.R_base ho2)) (Kd.R_base ho3)) (fun _ h_ => h_.1))
      have n16_ := Aside0.mk (Kd.S_mono (Kd.S_told (Kd.S_told (Kd.S_told (Kd.S_told (Kd.S_told (Kd.S_told (Kd.S_old (Kd.S_mv HO308) hb) (Kd.R_base ho0)) (Kd.R_base ho1)) (Kd.R_base ho2)) (Kd.R_base ho3)) (Kd.S_base ho4)) (Kd.S_base ho5)) (fun _ h_ => h_.1))
      have n17_ := Aside0.mk (Kd.S_mono (Kd.S_told (Kd.S_told (Kd.S_told (Kd.S_told (Kd.S_told (Kd.S_told (Kd.S_old (Kd.S_mv HO311) hb) (Kd.R_base ho0)) (Kd.R_base ho1)) (Kd.R_base ho2)) (Kd.R_base ho3)) (Kd.S_base ho4)) (Kd.S_base ho5)) (fun _ h_ => h_.1))
      have n18_ := Aside0.mk (Kd.R_mono (Kd.R_told (Kd.R_told (Kd.R_told (Kd.R_told (Kd.R_old (Kd.R_mv HO318) hb) (Kd.R_base ho0)) (Kd.R_base ho1)) (Kd.R_base ho2)) (Kd.R_base ho3)) (fun _ h_ => h_.1))
      have n19_ := Aside0.mk (Kd.R_mono (Kd.R_told (Kd.R_told (Kd.R_told (Kd.R_told (Kd.R_old (Kd.R_mv HO321) hb) (Kd.R_base ho0)) (Kd.R_base ho1)) (Kd.R_base ho2)) (Kd.R_base ho3)) (fun _ h_ => h_.1))
      have n20_ := Aside0.mk (Kd.R_mono (Kd.R_told (Kd.R_told (Kd.R_told (Kd.R_told (Kd.R_old (Kd.R_mv HO326) hb) (Kd.R_base ho0)) (Kd.R_base ho1)) (Kd.R_base ho2)) (Kd.R_base ho3)) (fun _ h_ => h_.1))
      have n21_ := Aside0.mk (Kd.R_mono (Kd.R_told (Kd.R_told (Kd.R_told (Kd.R_told (Kd.R_old (Kd.R_mv HO329) hb) (Kd.R_base ho0)) (Kd.R_base ho1)) (Kd.R_base ho2)) (Kd.R_base ho3)) (fun _ h_ => h_.1))
      have n22_ := Aside0.mk (Kd.S_mono (Kd.S_told (Kd.S_told (Kd.S_told (Kd.S_told (Kd.S_told (Kd.S_told (Kd.S_old (Kd.S_mv HO332) hb) (Kd.R_base ho0)) (Kd.R_base ho1)) (Kd.R_base ho2)) (Kd.R_base ho3)) (Kd.S_base ho4)) (Kd.S_base ho5)) (fun _ h_ => h_.1))
      have n23_ := Aside0.mk (Kd.S_mono (Kd.S_told (Kd.S_told (Kd.S_told (Kd.S_told (Kd.S_told (Kd.S_told (Kd.S_old (Kd.S_mv HO335) hb) (Kd.R_base ho0)) (Kd.R_base ho1)) (Kd.R_base ho2)) (Kd.R_base ho3)) (Kd.S_base ho4)) (Kd.S_base ho5)) (fun _ h_ => h_.1))
      have n24_ := Aside0.mk (Kd.R_mono (Kd.R_told (Kd.R_told (Kd.R_told (Kd.R_told (Kd.R_old (Kd.R_mv HO343) hb) (Kd.R_base ho0)) (Kd.R_base ho1)) (Kd.R_base ho2)) (Kd.R_base ho3)) (fun _ h_ => h_.1))
      have n25_ := Aside0.mk (Kd.R_mono (Kd.R_told (Kd.R_told (Kd.R_told (Kd.R_told (Kd.R_old (Kd.R_mv HO346) hb) (Kd.R_base ho0)) (Kd.R_base ho1)) (Kd.R_base ho2)) (Kd.R_base ho3)) (fun _ h_ => h_.1))
      have n26_ := Aside0.mk (Kd.R_mono (Kd.R_told (Kd.R_told (Kd.R_told (Kd.R_told (Kd.R_old (Kd.R_mv HO351) hb) (Kd.R_base ho0)) (Kd.R_base ho1)) (Kd.R_base ho2)) (Kd.R_base ho3)) (fun _ h_ => h_.1))
      have n27_ := Aside0.mk (Kd.R_mono (Kd.R_told (Kd.R_told (Kd.R_told (Kd.R_told (Kd.R_old (Kd.R_mv HO354) hb) (Kd.R_base ho0)) (Kd.R_base ho1)) (Kd.R_base ho2)) (Kd.R_base ho3)) (fun _ h_ => h_.1))
      have n28_ := Aside0.mk (Kd.S_mono (Kd.S_told (Kd.S_told (Kd.S_told (Kd.S_told (Kd.S_told (Kd.S_told (Kd.S_old (Kd.S_mv HO357) hb) (Kd.R_base ho0)) (Kd.R_base ho1)) (Kd.R_base ho2)) (Kd.R_base ho3)) (Kd.S_base ho4)) (Kd.S_base ho5)) (fun _ h_ => h_.1))
      have n29_ := Aside0.mk (Kd.S_mono (Kd.S_told (Kd.S_told (Kd.S_told (Kd.S_told (Kd.S_told (Kd.S_told (Kd.S_old (Kd.S_mv HO360) hb) (Kd.R_base ho0)) (Kd.R_base ho1)) (Kd.R_base ho2)) (Kd.R_base ho3)) (Kd.S_base ho4)) (Kd.S_base ho5)) (fun _ h_ => h_.1))
      have n30_ := Aside0.mk (Kd.R_lower (Kd.R_new' (Kd.R_new' (Kd.R_new' (Kd.R_new' (Kd.R_new' (Kd.R_new' (Kd.R_new' (Kd.R_new' (Kd.R_new' (Kd.R_new' (Kd.R_new' (Kd.R_new' (Kd.R_new' (Kd.R_new' (Kd.R_new' (Kd.R_new' (Kd.R_new' (Kd.R_new' (Kd.R_new' (Kd.R_new' ho0 (Kd.R_lt (Kd.R_mv HO247))) (Kd.R_lt (Kd.R_mv HO250))) (Kd.R_lt (Kd.R_mv HO255))) (Kd.R_lt (Kd.R_mv HO258))) (Kd.R_lt (Kd.R_mv HO270))) (Kd.R_lt (Kd.R_mv HO273))) (Kd.R_lt (Kd.R_mv HO278))) (Kd.R_lt (Kd.R_mv HO281))) (Kd.R_lt (Kd.R_mv HO294))) (Kd.R_lt (Kd.R_mv HO297))) (Kd.R_lt (Kd.R_mv HO302))) (Kd.R_lt (Kd.R_mv HO305))) (Kd.R_lt (Kd.R_mv HO318))) (Kd.R_lt (Kd.R_mv HO321))) (Kd.R_lt (Kd.R_mv HO326))) (Kd.R_lt (Kd.R_mv HO329))) (Kd.R_lt (Kd.R_mv HO343))) (Kd.R_lt (Kd.R_mv HO346))) (Kd.R_lt (Kd.R_mv HO351))) (Kd.R_lt (Kd.R_mv HO354))) (below_size (by repeat (first | (with_reducible first | exact HB.out | apply below_alloc | apply pw_below_drewN | apply below_drew1 | refine below_set ?_ GE238.out | refine below_set ?_ GE239.out | refine below_set ?_ GE312.out | refine below_set ?_ GE336.out) | exact HB.out))))
      have n31_ := Aside0.mk (Kd.R_lower (Kd.R_new' (Kd.R_new' (Kd.R_new' (Kd.R_new' (Kd.R_new' (Kd.R_new' (Kd.R_new' (Kd.R_new' (Kd.R_new' (Kd.R_new' (Kd.R_new' (Kd.R_new' (Kd.R_new' (Kd.R_new' (Kd.R_new' (Kd.R_new' (Kd.R_new' (Kd.R_new' (Kd.R_new' (Kd.R_new' ho1 (Kd.R_lt (Kd.R_mv HO247))) (Kd.R_lt (Kd.R_mv HO250))) (Kd.R_lt (Kd.R_mv HO255))) (Kd.R_lt (Kd.R_mv HO258))) (Kd.R_lt (Kd.R_mv HO270))) (Kd.R_lt (Kd.R_mv HO273))) (Kd.R_lt (Kd.R_mv HO278))) (Kd.R_lt (Kd.R_mv HO281))) (Kd.R_lt (Kd.R_mv HO294))) (Kd.R_lt (Kd.R_mv HO297))) (Kd.R_lt (Kd.R_mv HO302))) (Kd.R_lt (Kd.R_mv HO305))) (Kd.R_lt (Kd.R_mv HO318))) (Kd.R_lt (Kd.R_mv HO321))) (Kd.R_lt (Kd.R_mv HO326))) (Kd.R_lt (Kd.R_mv HO329))) (Kd.R_lt (Kd.R_mv HO343))) (Kd.R_lt (Kd.R_mv HO346))) (Kd.R_lt (Kd.R_mv HO351))) (Kd.R_lt (Kd.R_mv HO354))) (below_size (by repeat (first | (with_reducible first | exact HB.out | apply below_alloc | apply pw_below_drewN | apply below_drew1 | refine below_set ?_ GE238.out | refine below_set ?_ GE239.out | refine below_set ?_ GE312.out | refine below_set ?_ GE336.out) | exact HB.out))))
      have n32_ := Aside0.mk (Kd.R_lower (Kd.R_new' (Kd.R_new' (Kd.R_new' (Kd.R_new' (Kd.R_new' (Kd.R_new' (Kd.R_new' (Kd.R_new' (Kd.R_new' (Kd.R_new' (Kd.R_new' (Kd.R_new' (Kd.R_new' (Kd.R_new' (Kd.R_new' (Kd.R_new' (Kd.R_new' (Kd.R_new' (Kd.R_new' (Kd.R_new' ho2 (Kd.R_lt (Kd.R_mv HO247))) (Kd.R_lt (Kd.R_mv HO250))) (Kd.R_lt (Kd.R_mv HO255))) (Kd.R_lt (Kd.R_mv HO258))) (Kd.R_lt (Kd.R_mv HO270))) (Kd.R_lt (Kd.R_mv HO273))) (Kd.R_lt (Kd.R_mv HO278))) (Kd.R_lt (Kd.R_mv HO281))) (Kd.R_lt (Kd.R_mv HO294))) (Kd.R_lt (Kd.R_mv HO297))) (Kd.R_lt (Kd.R_mv HO302))) (Kd.R_lt (Kd.R_mv HO305))) (Kd.R_lt (Kd.R_mv HO318))) (Kd.R_lt (Kd.R_mv HO321))) (Kd.R_lt (Kd.R_mv HO326))) (Kd.R_lt (Kd.R_mv HO329))) (Kd.R_lt (Kd.R_mv HO343))) (Kd.R_lt (Kd.R_mv HO346))) (Kd.R_lt (Kd.R_mv HO351))) (Kd.R_lt (Kd.R_mv HO354))) (below_size (by repeat (first | (with_reducible first | exact HB.out | apply below_alloc | apply pw_below_drewN | apply below_drew1 | refine below_set ?_ GE238.out | refine below_set ?_ GE239.out | refine below_set ?_ GE312.out | refine below_set ?_ GE336.out) | exact HB.out))))
      have n33_ := Aside0.mk (Kd.R_lower (Kd.R_new' (Kd.R_new' (Kd.R_new' (Kd.R_new' (Kd.R_new' (Kd.R_new' (Kd.R_new' (Kd.R_new' (Kd.R_new' (Kd.R_new' (Kd.R_new' (Kd.R_new' (Kd.R_new' (Kd.R_new' (Kd.R_new' (Kd.R_new' (Kd.R_new' (Kd.R_new' (Kd.R_new' (Kd.R_new' ho3 (Kd.R_lt (Kd.R_mv HO247))) (Kd.R_lt (Kd.R_mv HO250))) (Kd.R_lt (Kd.R_mv HO255))) (Kd.R_lt (Kd.R_mv HO258))) (Kd.R_lt (Kd.R_mv HO270))) (Kd.R_lt (Kd.R_mv HO273))) (Kd.R_lt (Kd.R_mv HO278))) (Kd.R_lt (Kd.R_mv HO281))) (Kd.R_lt (Kd.R_mv HO294))) (Kd.R_lt (Kd.R_mv HO297))) (Kd.R_lt (Kd.R_mv HO302))) (Kd.R_lt (Kd.R_mv HO305))) (Kd.R_lt (Kd.R_mv HO318))) (Kd.R_lt (Kd.R_mv HO321))) (Kd.R_lt (Kd.R_mv HO326))) (Kd.R_lt (Kd.R_mv HO329))) (Kd.R_lt (Kd.R_mv HO343))) (Kd.R_lt (Kd.R_mv HO346))) (Kd.R_lt (Kd.R_mv HO351))) (Kd.R_lt (Kd.R_mv HO354))) (below_size (by repeat (first | (with_reducible first | exact HB.out | apply below_alloc | apply pw_below_drewN | apply below_drew1 | refine below_set ?_ GE238.out | refine below_set ?_ GE239.out | refine below_set ?_ GE312.out | refine below_set ?_ GE336.out) | exact HB.out))))
      have n34_ := Aside0.mk (Kd.S_lower (Kd.S_new' (Kd.S_new' (Kd.S_new' (Kd.S_new' (Kd.S_new' (Kd.S_new' (Kd.S_new' (Kd.S_new' (Kd.S_new' (Kd.S_new' (Kd.S_new' (Kd.S_new' (Kd.S_new' (Kd.S_new' (Kd.S_new' (Kd.S_new' (Kd.S_new' (Kd.S_new' (Kd.S_new' (Kd.S_new' (Kd.S_new' (Kd.S_new' (Kd.S_new' (Kd.S_new' (Kd.S_new' (Kd.S_new' (Kd.S_new' (Kd.S_new' (Kd.S_new' (Kd.S_new' ho4 (Kd.R_lt (Kd.R_mv HO247))) (Kd.R_lt (Kd.R_mv HO250))) (Kd.R_lt (Kd.R_mv HO255))) (Kd.R_lt (Kd.R_mv HO258))) (Kd.S_lt (Kd.S_mv HO261))) (Kd.S_lt (Kd.S_mv HO264))) (Kd.R_lt (Kd.R_mv HO270))) (Kd.R_lt (Kd.R_mv HO273))) (Kd.R_lt (Kd.R_mv HO278))) (Kd.R_lt (Kd.R_mv HO281))) (Kd.S_lt (Kd.S_mv HO284))) (Kd.S_lt (Kd.S_mv HO287))) (Kd.R_lt (Kd.R_mv HO294))) (Kd.R_lt (Kd.R_mv HO297))) (Kd.R_lt (Kd.R_mv HO302))) (Kd.R_lt (Kd.R_mv HO305))) (Kd.S_lt (Kd.S_mv HO308))) (Kd.S_lt (Kd.S_mv HO311))) (Kd.R_lt (Kd.R_mv HO318))) (Kd.R_lt (Kd.R_mv HO321))) (Kd.R_lt (Kd.R_mv HO326))) (Kd.R_lt (Kd.R_mv HO329))) (Kd.S_lt (Kd.S_mv HO332))) (Kd.S_lt (Kd.S_mv HO335))) (Kd.R_lt (Kd.R_mv HO343))) (Kd.R_lt (Kd.R_mv HO346))) (Kd.R_lt (Kd.R_mv HO351))) (Kd.R_lt (Kd.R_mv HO354))) (Kd.S_lt (Kd.S_mv HO357))) (Kd.S_lt (Kd.S_mv HO360))) (below_size (by repeat (first | (with_reducible first | exact HB.out | apply below_alloc | apply pw_below_drewN | apply below_drew1 | refine below_set ?_ GE238.out | refine below_set ?_ GE239.out | refine below_set ?_ GE312.out | refine below_set ?_ GE336.out) | exact HB.out))))
      have n35_ := Aside0.mk (Kd.S_lower (Kd.S_new' (Kd.S_new' (Kd.S_new' (Kd.S_new' (Kd.S_new' (Kd.S_new' (Kd.S_new' (Kd.S_new' (Kd.S_new' (Kd.S_new' (Kd.S_new' (Kd.S_new' (Kd.S_new' (Kd.S_new' (Kd.S_new' (Kd.S_new' (Kd.S_new' (Kd.S_new' (Kd.S_new' (Kd.S_new' (Kd.S_new' (Kd.S_new' (Kd.S_new' (Kd.S_new' (Kd.S_new' (Kd.S_new' (Kd.S_new' (Kd.S_new' (Kd.S_new' (Kd.S_new' ho5 (Kd.R_lt (Kd.R_mv HO247))) (Kd.R_lt (Kd.R_mv HO250))) (Kd.R_lt (Kd.R_mv HO255))) (Kd.R_lt (Kd.R_mv HO258))) (Kd.S_lt (Kd.S_mv HO261))) (Kd.S_lt (Kd.S_mv HO264))) (Kd.R_lt (Kd.R_mv HO270))) (Kd.R_lt (Kd.R_mv HO273))) (Kd.R_lt (Kd.R_mv HO278))) (Kd.R_lt (Kd.R_mv HO281))) (Kd.S_lt (Kd.S_mv HO284))) (Kd.S_lt (Kd.S_mv HO287))) (Kd.R_lt (Kd.R_mv HO294))) (Kd.R_lt (Kd.R_mv HO297))) (Kd.R_lt (Kd.R_mv HO302))) (Kd.R_lt (Kd.R_mv HO305))) (Kd.S_lt (Kd.S_mv HO308))) (Kd.S_lt (Kd.S_mv HO311))) (Kd.R_lt (Kd.R_mv HO318))) (Kd.R_lt (Kd.R_mv HO321))) (Kd.R_lt (Kd.R_mv HO326))) (Kd.R_lt (Kd.R_mv HO329))) (Kd.S_lt (Kd.S_mv HO332))) (Kd.S_lt (Kd.S_mv HO335))) (Kd.R_lt (Kd.R_mv HO343))) (Kd.R_lt (Kd.R_mv HO346))) (Kd.R_lt (Kd.R_mv HO351))) (Kd.R_lt (Kd.R_mv HO354))) (Kd.S_lt (Kd.S_mv HO357))) (Kd.S_lt (Kd.S_mv HO360))) (below_size (by repeat (first | (with_reducible first | exact HB.out | apply below_alloc | apply pw_below_drewN | apply below_drew1 | refine below_set ?_ GE238.out | refine below_set ?_ GE239.out | refine below_set ?_ GE312.out | refine below_set ?_ GE336.out) | exact HB.out))))
      have n36_ := Aside0.mk (blk_below (g := gb238) (o := .cells #[.int .i64 a0_0, .int .i64 a0_1, .int .i64 a0_2, .slice A0_3 l0_3.length c0_3, .slice A0_4 l0_4.length c0_4, .int .i64 a0_5, .int .i64 a0_6, .slice A0_7 l0_7.length c0_7, .slice A0_8 l0_8.length c0_8, .slice A0_9 l0_9.length c0_9, .slice A0_10 l0_10.length c0_10] 64 (0, 0)) (blk_mv BK238) hb)
      have n37_ := Aside0.mk (blk_below (g := gb239) (o := .cells #[.int .i64 a1_0, .int .i64 a1_1, .int .i64 a1_2, .slice A1_3 l1_3.length c1_3, .slice A1_4 l1_4.length c1_4, .int .i64 a1_5, .int .i64 a1_6, .slice A1_7 l1_7.length c1_7, .slice A1_8 l1_8.length c1_8, .slice A1_9 l1_9.length c1_9, .slice A1_10 l1_10.length c1_10] 64 (0, 0)) (blk_mv BK239) hb)
      have n38_ := Aside0.mk (blk_below (g := gb312) (o := .cells #[.int .i64 t289, .int .i64 t290, .int .i64 t291, .slice Ao53 t292.length co53, .slice Ao54 t295.length co54, .int .i64 t298, .int .i64 t299, .slice Ao55 t300.length co55, .slice Ao56 t303.length co56, .slice Ao57 t306.length co57, .slice Ao58 t309.length co58] 68 (0, 0)) (blk_mv BK312) hb)
      have n39_ := Aside0.mk (blk_below (g := gb336) (o := .cells #[.int .i64 t313, .int .i64 t314, .int .i64 t315, .slice Ao66 t316.length co66, .slice Ao67 t319.length co67, .int .i64 t322, .int .i64 t323, .slice Ao68 t324.length co68, .slice Ao69 t327.length co69, .slice Ao70 t330.length co70, .slice Ao71 t333.length co71] 68 (0, 0)) (blk_mv BK336) hb)
      have n40_ := Aside0.mk (below_step (by repeat (first | (with_reducible first | exact HB.out | apply below_alloc | apply pw_below_drewN | apply below_drew1 | refine below_set ?_ GE238.out | refine below_set ?_ GE239.out | refine below_set ?_ GE312.out | refine below_set ?_ GE336.out) | exact HB.out)) hb)
      clear HO247
      clear HO250
      clear HO255
      clear HO258
      clear HO261
      clear HO264
      clear HO270
      clear HO273
      clear HO278
      clear HO281
      clear HO284
      clear HO287
      clear HO294
      clear HO297
      clear HO302
      clear HO305
      clear HO308
      clear HO311
      clear HO318
      clear HO321
      clear HO326
      clear HO329
      clear HO332
      clear HO335
      clear HO343
      clear HO346
      clear HO351
      clear HO354
      clear HO357
      clear HO360
      clear BK238
      clear BK239
      clear BK312
      clear BK336
      clear HB
      have HO247 := n0_
      have HO250 := n1_
      have HO255 := n2_
      have HO258 := n3_
      have HO261 := n4_
      have HO264 := n5_
      have HO270 := n6_
      have HO273 := n7_
      have HO278 := n8_
      have HO281 := n9_
      have HO284 := n10_
      have HO287 := n11_
      have HO294 := n12_
      have HO297 := n13_
      have HO302 := n14_
      have HO305 := n15_
      have HO308 := n16_
      have HO311 := n17_
      have HO318 := n18_
      have HO321 := n19_
      have HO326 := n20_
      have HO329 := n21_
      have HO332 := n22_
      have HO335 := n23_
      have HO343 := n24_
      have HO346 := n25_
      have HO351 := n26_
      have HO354 := n27_
      have HO357 := n28_
      have HO360 := n29_
      have HO367 := n30_
      have HO370 := n31_
      have HO375 := n32_
      have HO378 := n33_
      have HO381 := n34_
      have HO384 := n35_
      have BK238 := n36_
      have BK239 := n37_
      have BK312 := n38_
      have BK336 := n39_
      have HB := n40_
      clear n0_ n1_ n2_ n3_ n4_ n5_ n6_ n7_ n8_ n9_ n10_ n11_ n12_ n13_ n14_ n15_ n16_ n17_ n18_ n19_ n20_ n21_ n22_ n23_ n24_ n25_ n26_ n27_ n28_ n29_ n30_ n31_ n32_ n33_ n34_ n35_ n36_ n37_ n38_ n39_ n40_
      (try clear hb)
      (try clear hb2)
      (try clear hk)
      (try clear hi)
      (try clear ho0)
      (try clear ho1)
      (try clear ho2)
      (try clear ho3)
      (try clear ho4)
      (try clear ho5)
      obtain ⟨Ao85, co85, eo85⟩ := Kd.R_slice HO367.out
      (first | subst eo85 | (injection eo85 with f1_ f2_ f3_; have f4_ := f1_.symm; have f5_ := f3_.symm; clear f1_ f2_ f3_; subst f4_; subst f5_))
      obtain ⟨Ao86, co86, eo86⟩ := Kd.R_slice HO370.out
      (first | subst eo86 | (injection eo86 with f1_ f2_ f3_; have f4_ := f1_.symm; have f5_ := f3_.symm; clear f1_ f2_ f3_; subst f4_; subst f5_))
      obtain ⟨Ao87, co87, eo87⟩ := Kd.R_slice HO375.out
      (first | subst eo87 | (injection eo87 with f1_ f2_ f3_; have f4_ := f1_.symm; have f5_ := f3_.symm; clear f1_ f2_ f3_; subst f4_; subst f5_))
      obtain ⟨Ao88, co88, eo88⟩ := Kd.R_slice HO378.out
      (first | subst eo88 | (injection eo88 with f1_ f2_ f3_; have f4_ := f1_.symm; have f5_ := f3_.symm; clear f1_ f2_ f3_; subst f4_; subst f5_))
      obtain ⟨Ao89, co89, eo89⟩ := Kd.S_slice HO381.out
      (first | subst eo89 | (injection eo89 with f1_ f2_ f3_; have f4_ := f1_.symm; have f5_ := f3_.symm; clear f1_ f2_ f3_; subst f4_; subst f5_))
      obtain ⟨Ao90, co90, eo90⟩ := Kd.S_slice HO384.out
      (first | subst eo90 | (injection eo90 with f1_ f2_ f3_; have f4_ := f1_.symm; have f5_ := f3_.symm; clear f1_ f2_ f3_; subst f4_; subst f5_))
      refine hK.out _ _ ⟨(blk_cell BK336.out 0).trans rfl, (blk_cell BK336.out 1).trans rfl, (blk_cell BK336.out 2).trans rfl, (blk_cell BK336.out 3).trans rfl, (blk_cell BK336.out 4).trans rfl, (blk_cell BK336.out 5).trans rfl, (blk_cell BK336.out 6).trans rfl, (blk_cell BK336.out 7).trans rfl, (blk_cell BK336.out 8).trans rfl, (blk_cell BK336.out 9).trans rfl, (blk_cell BK336.out 10).trans rfl, (blk_cell BK239.out 0).trans rfl, (blk_cell BK239.out 1).trans rfl, (blk_cell BK239.out 2).trans rfl, (blk_cell BK239.out 3).trans rfl, (blk_cell BK239.out 4).trans rfl, (blk_cell BK239.out 5).trans rfl, (blk_cell BK239.out 6).trans rfl, (blk_cell BK239.out 7).trans rfl, (blk_cell BK239.out 8).trans rfl, (blk_cell BK239.out 9).trans rfl, (blk_cell BK239.out 10).trans rfl⟩ (fun hHeld => ?_)
      clear hK K
      refine norm_ (a' := ?_) ?_ ?_
      rotate_left
      ·show Act.put _ (some 42) _ = _
       simp only [Act.put, List.setIfInBounds_toArray, List.set_cons_zero, List.set_cons_succ, i64_w, i32_w]
       rfl
      refine one_ (i := 3) (N := some 43) #[true, true, true, true, false] rfl rfl (by kernel_rfl) (by decide) (fun K hK => ?_)
      refine goes_ Try.func40 (by kernel_rfl) rfl #[.agg #[.int .i64 t313, .int .i64 t314, .int .i64 t315, .slice Ao66 t316.length co66, .slice Ao67 t319.length co67, .int .i64 t322, .int .i64 t323, .slice Ao68 t324.length co68, .slice Ao69 t327.length co69, .slice Ao70 t330.length co70, .slice Ao71 t333.length co71], .agg #[.int .i64 t362, .int .i64 t363, .int .i64 t364, .slice Ao85 t365.length co85, .slice Ao86 t368.length co86, .int .i64 t371, .int .i64 t372, .slice Ao87 t373.length co87, .slice Ao88 t376.length co88, .slice Ao89 t379.length co89, .slice Ao90 t382.length co90]] (by rfl) rfl rfl (by (try simp only [List.map_toArray, List.map_cons, List.map_nil]); first | done | rfl | (simp only [List.length_drop, List.length_take]; rfl)) ?_
      with_reducible refine (laws_eqBlock.calls k t313 t314 t315 _ _ t316 _ _ t319 t322 t323 _ _ t324 _ _ t327 _ _ t330 _ _ t333 t362 t363 t364 _ _ t365 _ _ t368 t371 t372 _ _ t373 _ _ t376 _ _ t379 _ _ t382 true _ ?side1 ?side2 ?side3 ?side4 ?side5 ?side6 ?side7 ?side8 ?side9 ?side10 ?side11 ?side12 ?side13 ?side14 ?side15 ?side16 ?side17 ?side18 ?side19 ?side20 ?side21 ?side22 ?side23 ?side24 A28.out).mono ?_
      (case side1 => repeat (first | exact (Kd.R_reads' HO318.out).2.2 | (with_reducible refine Kd.C_alloc ?_ _) | (with_reducible refine Kd.C_drewN ?_ _) | (with_reducible refine Kd.C_drew ?_)))
      (case side2 => exact (Kd.R_reads' HO318.out).2.1)
      (case side3 => repeat (first | exact (Kd.R_reads' HO321.out).2.2 | (with_reducible refine Kd.C_alloc ?_ _) | (with_reducible refine Kd.C_drewN ?_ _) | (with_reducible refine Kd.C_drew ?_)))
      (case side4 => exact (Kd.R_reads' HO321.out).2.1)
      (case side5 => repeat (first | exact (Kd.R_reads' HO326.out).2.2 | (with_reducible refine Kd.C_alloc ?_ _) | (with_reducible refine Kd.C_drewN ?_ _) | (with_reducible refine Kd.C_drew ?_)))
      (case side6 => exact (Kd.R_reads' HO326.out).2.1)
      (case side7 => repeat (first | exact (Kd.R_reads' HO329.out).2.2 | (with_reducible refine Kd.C_alloc ?_ _) | (with_reducible refine Kd.C_drewN ?_ _) | (with_reducible refine Kd.C_drew ?_)))
      (case side8 => exact (Kd.R_reads' HO329.out).2.1)
      (case side9 => repeat (first | exact (Kd.S_reads' HO332.out).2.2 | (with_reducible refine Kd.C_alloc ?_ _) | (with_reducible refine Kd.C_drewN ?_ _) | (with_reducible refine Kd.C_drew ?_)))
      (case side10 => exact (Kd.S_reads' HO332.out).2.1)
      (case side11 => repeat (first | exact (Kd.S_reads' HO335.out).2.2 | (with_reducible refine Kd.C_alloc ?_ _) | (with_reducible refine Kd.C_drewN ?_ _) | (with_reducible refine Kd.C_drew ?_)))
      (case side12 => exact (Kd.S_reads' HO335.out).2.1)
      (case side13 => repeat (first | exact (Kd.R_reads' HO367.out).2.2 | (with_reducible refine Kd.C_alloc ?_ _) | (with_reducible refine Kd.C_drewN ?_ _) | (with_reducible refine Kd.C_drew ?_)))
      (case side14 => exact (Kd.R_reads' HO367.out).2.1)
      (case side15 => repeat (first | exact (Kd.R_reads' HO370.out).2.2 | (with_reducible refine Kd.C_alloc ?_ _) | (with_reducible refine Kd.C_drewN ?_ _) | (with_reducible refine Kd.C_drew ?_)))
      (case side16 => exact (Kd.R_reads' HO370.out).2.1)
      (case side17 => repeat (first | exact (Kd.R_reads' HO375.out).2.2 | (with_reducible refine Kd.C_alloc ?_ _) | (with_reducible refine Kd.C_drewN ?_ _) | (with_reducible refine Kd.C_drew ?_)))
      (case side18 => exact (Kd.R_reads' HO375.out).2.1)
      (case side19 => repeat (first | exact (Kd.R_reads' HO378.out).2.2 | (with_reducible refine Kd.C_alloc ?_ _) | (with_reducible refine Kd.C_drewN ?_ _) | (with_reducible refine Kd.C_drew ?_)))
      (case side20 => exact (Kd.R_reads' HO378.out).2.1)
      (case side21 => repeat (first | exact (Kd.S_reads' HO381.out).2.2 | (with_reducible refine Kd.C_alloc ?_ _) | (with_reducible refine Kd.C_drewN ?_ _) | (with_reducible refine Kd.C_drew ?_)))
      (case side22 => exact (Kd.S_reads' HO381.out).2.1)
      (case side23 => repeat (first | exact (Kd.S_reads' HO384.out).2.2 | (with_reducible refine Kd.C_alloc ?_ _) | (with_reducible refine Kd.C_drewN ?_ _) | (with_reducible refine Kd.C_drew ?_)))
      (case side24 => exact (Kd.S_reads' HO384.out).2.1)
      rintro e w91 ⟨rfl, hb⟩
      refine ⟨_, rfl, ?_⟩
      have n0_ := Aside0.mk (Kd.R_below (Kd.R_mv HO247) hb)
      have n1_ := Aside0.mk (Kd.R_below (Kd.R_mv HO250) hb)
      have n2_ := Aside0.mk (Kd.R_below (Kd.R_mv HO255) hb)
      have n3_ := Aside0.mk (Kd.R_below (Kd.R_mv HO258) hb)
      have n4_ := Aside0.mk (Kd.S_below (Kd.S_mv HO261) hb)
      have n5_ := Aside0.mk (Kd.S_below (Kd.S_mv HO264) hb)
      have n6_ := Aside0.mk (Kd.R_below (Kd.R_mv HO270) hb)
      have n7_ := Aside0.mk (Kd.R_below (Kd.R_mv HO273) hb)
      have n8_ := Aside0.mk (Kd.R_below (Kd.R_mv HO278) hb)
      have n9_ := Aside0.mk (Kd.R_below (Kd.R_mv HO281) hb)
      have n10_ := Aside0.mk (Kd.S_below (Kd.S_mv HO284) hb)
      have n11_ := Aside0.mk (Kd.S_below (Kd.S_mv HO287) hb)
      have n12_ := Aside0.mk (Kd.R_below (Kd.R_mv HO294) hb)
      have n13_ := Aside0.mk (Kd.R_below (Kd.R_mv HO297) hb)
      have n14_ := Aside0.mk (Kd.R_below (Kd.R_mv HO302) hb)
      have n15_ := Aside0.mk (Kd.R_below (Kd.R_mv HO305) hb)
      have n16_ := Aside0.mk (Kd.S_below (Kd.S_mv HO308) hb)
      have n17_ := Aside0.mk (Kd.S_below (Kd.S_mv HO311) hb)
      have n18_ := Aside0.mk (Kd.R_below (Kd.R_mv HO318) hb)
      have n19_ := Aside0.mk (Kd.R_below (Kd.R_mv HO321) hb)
      have n20_ := Aside0.mk (Kd.R_below (Kd.R_mv HO326) hb)
      have n21_ := Aside0.mk (Kd.R_below (Kd.R_mv HO329) hb)
      have n22_ := Aside0.mk (Kd.S_below (Kd.S_mv HO332) hb)
      have n23_ := Aside0.mk (Kd.S_below (Kd.S_mv HO335) hb)
      have n24_ := Aside0.mk (Kd.R_below (Kd.R_mv HO343) hb)
      have n25_ := Aside0.mk (Kd.R_below (Kd.R_mv HO346) hb)
      have n26_ := Aside0.mk (Kd.R_below (Kd.R_mv HO351) hb)
      have n27_ := Aside0.mk (Kd.R_below (Kd.R_mv HO354) hb)
      have n28_ := Aside0.mk (Kd.S_below (Kd.S_mv HO357) hb)
      have n29_ := Aside0.mk (Kd.S_below (Kd.S_mv HO360) hb)
      have n30_ := Aside0.mk (Kd.R_below (Kd.R_mv HO367) hb)
      have n31_ := Aside0.mk (Kd.R_below (Kd.R_mv HO370) hb)
      have n32_ := Aside0.mk (Kd.R_below (Kd.R_mv HO375) hb)
      have n33_ := Aside0.mk (Kd.R_below (Kd.R_mv HO378) hb)
      have n34_ := Aside0.mk (Kd.S_below (Kd.S_mv HO381) hb)
      have n35_ := Aside0.mk (Kd.S_below (Kd.S_mv HO384) hb)
      have n36_ := Aside0.mk (blk_below (g := gb238) (o := .cells #[.int .i64 a0_0, .int .i64 a0_1, .int .i64 a0_2, .slice A0_3 l0_3.length c0_3, .slice A0_4 l0_4.length c0_4, .int .i64 a0_5, .int .i64 a0_6, .slice A0_7 l0_7.length c0_7, .slice A0_8 l0_8.length c0_8, .slice A0_9 l0_9.length c0_9, .slice A0_10 l0_10.length c0_10] 64 (0, 0)) (blk_mv BK238) hb)
      have n37_ := Aside0.mk (blk_below (g := gb239) (o := .cells #[.int .i64 a1_0, .int .i64 a1_1, .int .i64 a1_2, .slice A1_3 l1_3.length c1_3, .slice A1_4 l1_4.length c1_4, .int .i64 a1_5, .int .i64 a1_6, .slice A1_7 l1_7.length c1_7, .slice A1_8 l1_8.length c1_8, .slice A1_9 l1_9.length c1_9, .slice A1_10 l1_10.length c1_10] 64 (0, 0)) (blk_mv BK239) hb)
      have n38_ := Aside0.mk (blk_below (g := gb312) (o := .cells #[.int .i64 t289, .int .i64 t290, .int .i64 t291, .slice Ao53 t292.length co53, .slice Ao54 t295.length co54, .int .i64 t298, .int .i64 t299, .slice Ao55 t300.length co55, .slice Ao56 t303.length co56, .slice Ao57 t306.length co57, .slice Ao58 t309.length co58] 68 (0, 0)) (blk_mv BK312) hb)
      have n39_ := Aside0.mk (blk_below (g := gb336) (o := .cells #[.int .i64 t313, .int .i64 t314, .int .i64 t315, .slice Ao66 t316.length co66, .slice Ao67 t319.length co67, .int .i64 t322, .int .i64 t323, .slice Ao68 t324.length co68, .slice Ao69 t327.length co69, .slice Ao70 t330.length co70, .slice Ao71 t333.length co71] 68 (0, 0)) (blk_mv BK336) hb)
      have n40_ := Aside0.mk (below_step (by repeat (first | (with_reducible first | exact HB.out | apply below_alloc | apply pw_below_drewN | apply below_drew1 | refine below_set ?_ GE238.out | refine below_set ?_ GE239.out | refine below_set ?_ GE312.out | refine below_set ?_ GE336.out) | exact HB.out)) hb)
      clear HO247
      clear HO250
      clear HO255
      clear HO258
      clear HO261
      clear HO264
      clear HO270
      clear HO273
      clear HO278
      clear HO281
      clear HO284
      clear HO287
      clear HO294
      clear HO297
      clear HO302
      clear HO305
      clear HO308
      clear HO311
      clear HO318
      clear HO321
      clear HO326
      clear HO329
      clear HO332
      clear HO335
      clear HO343
      clear HO346
      clear HO351
      clear HO354
      clear HO357
      clear HO360
      clear HO367
      clear HO370
      clear HO375
      clear HO378
      clear HO381
      clear HO384
      clear BK238
      clear BK239
      clear BK312
      clear BK336
      clear HB
      have HO247 := n0_
      have HO250 := n1_
      have HO255 := n2_
      have HO258 := n3_
      have HO261 := n4_
      have HO264 := n5_
      have HO270 := n6_
      have HO273 := n7_
      have HO278 := n8_
      have HO281 := n9_
      have HO284 := n10_
      have HO287 := n11_
      have HO294 := n12_
      have HO297 := n13_
      have HO302 := n14_
      have HO305 := n15_
      have HO308 := n16_
      have HO311 := n17_
      have HO318 := n18_
      have HO321 := n19_
      have HO326 := n20_
      have HO329 := n21_
      have HO332 := n22_
      have HO335 := n23_
      have HO343 := n24_
      have HO346 := n25_
      have HO351 := n26_
      have HO354 := n27_
      have HO357 := n28_
      have HO360 := n29_
      have HO367 := n30_
      have HO370 := n31_
      have HO375 := n32_
      have HO378 := n33_
      have HO381 := n34_
      have HO384 := n35_
      have BK238 := n36_
      have BK239 := n37_
      have BK312 := n38_
      have BK336 := n39_
      have HB := n40_
      clear n0_ n1_ n2_ n3_ n4_ n5_ n6_ n7_ n8_ n9_ n10_ n11_ n12_ n13_ n14_ n15_ n16_ n17_ n18_ n19_ n20_ n21_ n22_ n23_ n24_ n25_ n26_ n27_ n28_ n29_ n30_ n31_ n32_ n33_ n34_ n35_ n36_ n37_ n38_ n39_ n40_
      (try clear hb)
      (try clear hb2)
      (try clear hk)
      (try clear hi)
      refine hK.out _ _ ⟨(blk_cell BK336.out 0).trans rfl, (blk_cell BK336.out 1).trans rfl, (blk_cell BK336.out 2).trans rfl, (blk_cell BK336.out 3).trans rfl, (blk_cell BK336.out 4).trans rfl, (blk_cell BK336.out 5).trans rfl, (blk_cell BK336.out 6).trans rfl, (blk_cell BK336.out 7).trans rfl, (blk_cell BK336.out 8).trans rfl, (blk_cell BK336.out 9).trans rfl, (blk_cell BK336.out 10).trans rfl, (blk_cell BK239.out 0).trans rfl, (blk_cell BK239.out 1).trans rfl, (blk_cell BK239.out 2).trans rfl, (blk_cell BK239.out 3).trans rfl, (blk_cell BK239.out 4).trans rfl, (blk_cell BK239.out 5).trans rfl, (blk_cell BK239.out 6).trans rfl, (blk_cell BK239.out 7).trans rfl, (blk_cell BK239.out 8).trans rfl, (blk_cell BK239.out 9).trans rfl, (blk_cell BK239.out 10).trans rfl⟩ (fun hHeld => ?_)
      clear hK K
      refine norm_ (a' := ?_) ?_ ?_
      rotate_left
      ·show Act.put _ (some 43) _ = _
       simp only [Act.put, List.setIfInBounds_toArray, List.set_cons_zero, List.set_cons_succ, i64_w, i32_w]
       rfl
      refine pure_ (i := 4) (N := some 44) (v := ?_) (a' := ?_) #[true, true, true, true, true] rfl rfl (by kernel_rfl) (fun _ _ _ h => h) (Or.inl ⟨by rfl, ?_⟩) ?_ ?_
      rotate_left
      ·intro w'
       go_simp
       with_reducible rfl
      rotate_left
      ·simp only [Act.put, List.setIfInBounds_toArray, List.set_cons_zero, List.set_cons_succ, i64_w, i32_w]
       rfl
      refine done_ (by kernel_rfl) ?_
      try go_wp2
      go_ret
      exact ⟨by first | rfl | (simp [errW_none, errW_some] <;> rfl) | (simp [*, errW_none, errW_some] <;> rfl), by repeat (first | (with_reducible first | exact HB.out | apply below_alloc | apply pw_below_drewN | apply below_drew1 | refine below_set ?_ GE238.out | refine below_set ?_ GE239.out | refine below_set ?_ GE312.out | refine below_set ?_ GE336.out) | exact HB.out)⟩
     ·replace c29 := Bool.eq_false_iff.mpr c29
      subst c29
      have H1 : (none) = some r := by rw [if_neg (show ¬ (false = true) by decide)] at H; exact H
      clear H
      have H := H1
      clear H1
      exact absurd H (by simp)
    ·replace c26 := Bool.eq_false_iff.mpr c26
     subst c26
     have H1 : (none) = some r := by rw [if_neg (show ¬ (false = true) by decide)] at H; exact H
     clear H
     have H := H1
     clear H1
     exact absurd H (by simp)

end Go.Proofs.Ytniapflmmigbjaa.PFnExactBlockSame
