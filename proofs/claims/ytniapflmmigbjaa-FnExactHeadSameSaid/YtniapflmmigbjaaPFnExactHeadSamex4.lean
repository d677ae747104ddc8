-- by a program of this session (wip/gen), out of the translation. Not trusted: Lean checks it.
import Derived.Test.YtniapflmmigbjaaPFnExactHeadSamex0
import Derived.Test.YtniapflmmigbjaaPFnExactHeadSamex1
import Derived.Test.YtniapflmmigbjaaPFnExactHeadSamex2
import Derived.Test.YtniapflmmigbjaaPFnExactHeadSamex3
namespace Go.Proofs.Ytniapflmmigbjaa.PFnExactHeadSame
open Go.RowKit Go.Proofs.YtniapflmmigbjaaW.PrintWords Go.Proofs.YtniapflmmigbjaaW.PrintLast Go.Proofs.YtniapflmmigbjaaW.PrintMore
attribute [local go_sem] max2_int min2_int max_two min_two max_three min_three max_four min_four   -- for this text's walks alone
set_option linter.unusedVariables false
set_option linter.unusedSimpArgs false

/-! ### laws_FnExactHeadSame: function 5 -/
def laws_FnExactHeadSame.f (k : Nat) (a0_0 : Int) (a0_1 : Int) (a0_2 : Int) (l0_3 : List Int) (l0_4 : List Int) (a0_5 : Int) (a0_6 : Int) (l0_7 : List Int) (l0_8 : List Int) (l0_9 : List (List Int)) (a1_0 : Int) (a1_1 : Int) (a1_2 : Int) (l1_3 : List Int) (l1_4 : List Int) (a1_5 : Int) (a1_6 : Int) (l1_7 : List Int) (l1_8 : List Int) (l1_9 : List (List Int)) : Option (Bool) := (laws_szHead.f k a0_0 a0_1 a0_2 l0_3 l0_4 a0_5 a0_6 l0_7 l0_8 l0_9 1048576).bind fun t199 => (if t199 < 0 then (some true) else ((laws_szHead.f k a1_0 a1_1 a1_2 l1_3 l1_4 a1_5 a1_6 l1_7 l1_8 l1_9 t199).bind fun t200 => (if t200 < 0 then (some true) else ((laws_toHead.f k a0_0 a0_1 a0_2 l0_3 l0_4 a0_5 a0_6 l0_7 l0_8 l0_9).bind fun bt201 => ((laws_toHead.f k a1_0 a1_1 a1_2 l1_3 l1_4 a1_5 a1_6 l1_7 l1_8 l1_9).bind fun bt221 => ((spec_HeadSame.f k bt201.1 bt201.2.1 bt201.2.2.1 bt201.2.2.2.1 bt201.2.2.2.2.1 bt201.2.2.2.2.2.1 bt201.2.2.2.2.2.2.1 bt201.2.2.2.2.2.2.2.1 bt201.2.2.2.2.2.2.2.2.1 bt201.2.2.2.2.2.2.2.2.2 bt221.1 bt221.2.1 bt221.2.2.1 bt221.2.2.2.1 bt221.2.2.2.2.1 bt221.2.2.2.2.2.1 bt221.2.2.2.2.2.2.1 bt221.2.2.2.2.2.2.2.1 bt221.2.2.2.2.2.2.2.2.1 bt221.2.2.2.2.2.2.2.2.2).bind fun t241 => ((laws_toHead.f k a0_0 a0_1 a0_2 l0_3 l0_4 a0_5 a0_6 l0_7 l0_8 l0_9).bind fun bt242 => ((laws_toHead.f k a1_0 a1_1 a1_2 l1_3 l1_4 a1_5 a1_6 l1_7 l1_8 l1_9).bind fun bt263 => ((impl_HeadSame.f k bt242.1 bt242.2.1 bt242.2.2.1 bt242.2.2.2.1 bt242.2.2.2.2.1 bt242.2.2.2.2.2.1 bt242.2.2.2.2.2.2.1 bt242.2.2.2.2.2.2.2.1 bt242.2.2.2.2.2.2.2.2.1 bt242.2.2.2.2.2.2.2.2.2 bt263.1 bt263.2.1 bt263.2.2.1 bt263.2.2.2.1 bt263.2.2.2.2.1 bt263.2.2.2.2.2.1 bt263.2.2.2.2.2.2.1 bt263.2.2.2.2.2.2.2.1 bt263.2.2.2.2.2.2.2.2.1 bt263.2.2.2.2.2.2.2.2.2).bind fun t284 => (if (t284 != t241) = true then (none) else ((laws_toHead.f k a0_0 a0_1 a0_2 l0_3 l0_4 a0_5 a0_6 l0_7 l0_8 l0_9).bind fun bt285 => ((laws_eqHead.f k bt242.1 bt242.2.1 bt242.2.2.1 bt242.2.2.2.1 bt242.2.2.2.2.1 bt242.2.2.2.2.2.1 bt242.2.2.2.2.2.2.1 bt242.2.2.2.2.2.2.2.1 bt242.2.2.2.2.2.2.2.2.1 bt242.2.2.2.2.2.2.2.2.2 bt285.1 bt285.2.1 bt285.2.2.1 bt285.2.2.2.1 bt285.2.2.2.2.1 bt285.2.2.2.2.2.1 bt285.2.2.2.2.2.2.1 bt285.2.2.2.2.2.2.2.1 bt285.2.2.2.2.2.2.2.2.1 bt285.2.2.2.2.2.2.2.2.2).bind fun t305 => (if t305 = true then ((laws_toHead.f k a1_0 a1_1 a1_2 l1_3 l1_4 a1_5 a1_6 l1_7 l1_8 l1_9).bind fun bt306 => ((laws_eqHead.f k bt263.1 bt263.2.1 bt263.2.2.1 bt263.2.2.2.1 bt263.2.2.2.2.1 bt263.2.2.2.2.2.1 bt263.2.2.2.2.2.2.1 bt263.2.2.2.2.2.2.2.1 bt263.2.2.2.2.2.2.2.2.1 bt263.2.2.2.2.2.2.2.2.2 bt306.1 bt306.2.1 bt306.2.2.1 bt306.2.2.2.1 bt306.2.2.2.2.1 bt306.2.2.2.2.2.1 bt306.2.2.2.2.2.2.1 bt306.2.2.2.2.2.2.2.1 bt306.2.2.2.2.2.2.2.2.1 bt306.2.2.2.2.2.2.2.2.2).bind fun t326 => (if t326 = true then (some true) else (none)))) else (none))))))))))))))
theorem laws_FnExactHeadSame.mono : ∀ a0 a1 a2 a3 a4 a5 a6 a7 a8 a9 a10 a11 a12 a13 a14 a15 a16 a17 a18 a19 k, LeO (laws_FnExactHeadSame.f k a0 a1 a2 a3 a4 a5 a6 a7 a8 a9 a10 a11 a12 a13 a14 a15 a16 a17 a18 a19) (laws_FnExactHeadSame.f (k + 1) a0 a1 a2 a3 a4 a5 a6 a7 a8 a9 a10 a11 a12 a13 a14 a15 a16 a17 a18 a19) := by
 intro a0 a1 a2 a3 a4 a5 a6 a7 a8 a9 a10 a11 a12 a13 a14 a15 a16 a17 a18 a19 k
 unfold laws_FnExactHeadSame.f
 repeat' first
   | (with_reducible exact impl_HeadSame.mono _ _ _ _ _ _ _ _ _ _ _ _ _ _ _ _ _ _ _ _ _)
   | (with_reducible exact laws_eqHead.mono _ _ _ _ _ _ _ _ _ _ _ _ _ _ _ _ _ _ _ _ _)
   | (with_reducible exact laws_szHead.mono _ _ _ _ _ _ _ _ _ _ _ _)
   | (with_reducible exact laws_toHead.mono _ _ _ _ _ _ _ _ _ _ _)
   | (with_reducible exact spec_HeadSame.mono _ _ _ _ _ _ _ _ _ _ _ _ _ _ _ _ _ _ _ _ _)
   | (with_reducible exact LeO.refl _)
   | (with_reducible exact LeO.none _)
   | (with_reducible refine LeO.ite ?_ ?_)
   | (with_reducible refine LeO.bind ?_ (fun _ => ?_))
   | exact impl_HeadSame.mono _ _ _ _ _ _ _ _ _ _ _ _ _ _ _ _ _ _ _ _ _
   | exact laws_eqHead.mono _ _ _ _ _ _ _ _ _ _ _ _ _ _ _ _ _ _ _ _ _
   | exact laws_szHead.mono _ _ _ _ _ _ _ _ _ _ _ _
   | exact laws_toHead.mono _ _ _ _ _ _ _ _ _ _ _
   | exact spec_HeadSame.mono _ _ _ _ _ _ _ _ _ _ _ _ _ _ _ _ _ _ _ _ _
   | exact LeO.none _
   | refine LeO.ite ?_ ?_
   | refine LeO.bind ?_ (fun _ => ?_)
set_option maxHeartbeats 8000000 in
set_option maxRecDepth 100000 in
theorem laws_FnExactHeadSame.calls (k : Nat) (a0_0 : Int) (a0_1 : Int) (a0_2 : Int) (A0_3 : Option Addr) (c0_3 : Nat) (l0_3 : List Int) (A0_4 : Option Addr) (c0_4 : Nat) (l0_4 : List Int) (a0_5 : Int) (a0_6 : Int) (A0_7 : Option Addr) (c0_7 : Nat) (l0_7 : List Int) (A0_8 : Option Addr) (c0_8 : Nat) (l0_8 : List Int) (A0_9 : Option Addr) (c0_9 : Nat) (l0_9 : List (List Int)) (a1_0 : Int) (a1_1 : Int) (a1_2 : Int) (A1_3 : Option Addr) (c1_3 : Nat) (l1_3 : List Int) (A1_4 : Option Addr) (c1_4 : Nat) (l1_4 : List Int) (a1_5 : Int) (a1_6 : Int) (A1_7 : Option Addr) (c1_7 : Nat) (l1_7 : List Int) (A1_8 : Option Addr) (c1_8 : Nat) (l1_8 : List Int) (A1_9 : Option Addr) (c1_9 : Nat) (l1_9 : List (List Int)) (r : Bool) (w : World) (hr0_3 : Kd.C (Kd.int .u8) w A0_3 l0_3.length l0_3) (hc0_3 : l0_3.length ≤ c0_3) (hr0_4 : Kd.C (Kd.int .u8) w A0_4 l0_4.length l0_4) (hc0_4 : l0_4.length ≤ c0_4) (hr0_7 : Kd.C (Kd.int .u8) w A0_7 l0_7.length l0_7) (hc0_7 : l0_7.length ≤ c0_7) (hr0_8 : Kd.C (Kd.int .u8) w A0_8 l0_8.length l0_8) (hc0_8 : l0_8.length ≤ c0_8) (hr0_9 : Kd.C (Kd.slice 5 (Kd.int .u8)) w A0_9 l0_9.length l0_9) (hc0_9 : l0_9.length ≤ c0_9) (hr1_3 : Kd.C (Kd.int .u8) w A1_3 l1_3.length l1_3) (hc1_3 : l1_3.length ≤ c1_3) (hr1_4 : Kd.C (Kd.int .u8) w A1_4 l1_4.length l1_4) (hc1_4 : l1_4.length ≤ c1_4) (hr1_7 : Kd.C (Kd.int .u8) w A1_7 l1_7.length l1_7) (hc1_7 : l1_7.length ≤ c1_7) (hr1_8 : Kd.C (Kd.int .u8) w A1_8 l1_8.length l1_8) (hc1_8 : l1_8.length ≤ c1_8) (hr1_9 : Kd.C (Kd.slice 5 (Kd.int .u8)) w A1_9 l1_9.length l1_9) (hc1_9 : l1_9.length ≤ c1_9) (h : laws_FnExactHeadSame.f k a0_0 a0_1 a0_2 l0_3 l0_4 a0_5 a0_6 l0_7 l0_8 l0_9 a1_0 a1_1 a1_2 l1_3 l1_4 a1_5 a1_6 l1_7 l1_8 l1_9 = some r) :
  Calls Try.prog 5 #[.agg #[.int .i64 a0_0, .int .i64 a0_1, .int .i64 a0_2, .slice A0_3 l0_3.length c0_3, .slice A0_4 l0_4.length c0_4, .int .i64 a0_5, .int .i64 a0_6, .slice A0_7 l0_7.length c0_7, .slice A0_8 l0_8.length c0_8, .slice A0_9 l0_9.length c0_9], .agg #[.int .i64 a1_0, .int .i64 a1_1, .int .i64 a1_2, .slice A1_3 l1_3.length c1_3, .slice A1_4 l1_4.length c1_4, .int .i64 a1_5, .int .i64 a1_6, .slice A1_7 l1_7.length c1_7, .slice A1_8 l1_8.length c1_8, .slice A1_9 l1_9.length c1_9]] w fun e w' => e = .returned (.bool r) ∧ Below w.heap.size w w' := by
 have hu50 := Try.underlying50
 have hu55 := Try.underlying55
 have HR0_3 := Aside0.mk hr0_3
 have HC0_3 := Aside0.mk hc0_3
 clear hr0_3 hc0_3
 have HR0_4 := Aside0.mk hr0_4
 have HC0_4 := Aside0.mk hc0_4
 clear hr0_4 hc0_4
 have HR0_7 := Aside0.mk hr0_7
 have HC0_7 := Aside0.mk hc0_7
 clear hr0_7 hc0_7
 have HR0_8 := Aside0.mk hr0_8
 have HC0_8 := Aside0.mk hc0_8
 clear hr0_8 hc0_8
 have HR0_9 := Aside0.mk hr0_9
 have HC0_9 := Aside0.mk hc0_9
 clear hr0_9 hc0_9
 have HR1_3 := Aside0.mk hr1_3
 have HC1_3 := Aside0.mk hc1_3
 clear hr1_3 hc1_3
 have HR1_4 := Aside0.mk hr1_4
 have HC1_4 := Aside0.mk hc1_4
 clear hr1_4 hc1_4
 have HR1_7 := Aside0.mk hr1_7
 have HC1_7 := Aside0.mk hc1_7
 clear hr1_7 hc1_7
 have HR1_8 := Aside0.mk hr1_8
 have HC1_8 := Aside0.mk hc1_8
 clear hr1_8 hc1_8
 have HR1_9 := Aside0.mk hr1_9
 have HC1_9 := Aside0.mk hc1_9
 clear hr1_9 hc1_9
 have HB := Aside0.mk (Below.refl w.heap.size w)
 have H : ((laws_szHead.f k a0_0 a0_1 a0_2 l0_3 l0_4 a0_5 a0_6 l0_7 l0_8 l0_9 1048576).bind fun t199 => (if t199 < 0 then (some true) else ((laws_szHead.f k a1_0 a1_1 a1_2 l1_3 l1_4 a1_5 a1_6 l1_7 l1_8 l1_9 t199).bind fun t200 => (if t200 < 0 then (some true) else ((laws_toHead.f k a0_0 a0_1 a0_2 l0_3 l0_4 a0_5 a0_6 l0_7 l0_8 l0_9).bind fun bt201 => ((laws_toHead.f k a1_0 a1_1 a1_2 l1_3 l1_4 a1_5 a1_6 l1_7 l1_8 l1_9).bind fun bt221 => ((spec_HeadSame.f k bt201.1 bt201.2.1 bt201.2.2.1 bt201.2.2.2.1 bt201.2.2.2.2.1 bt201.2.2.2.2.2.1 bt201.2.2.2.2.2.2.1 bt201.2.2.2.2.2.2.2.1 bt201.2.2.2.2.2.2.2.2.1 bt201.2.2.2.2.2.2.2.2.2 bt221.1 bt221.2.1 bt221.2.2.1 bt221.2.2.2.1 bt221.2.2.2.2.1 bt221.2.2.2.2.2.1 bt221.2.2.2.2.2.2.1 bt221.2.2.2.2.2.2.2.1 bt221.2.2.2.2.2.2.2.2.1 bt221.2.2.2.2.2.2.2.2.2).bind fun t241 => ((laws_toHead.f k a0_0 a0_1 a0_2 l0_3 l0_4 a0_5 a0_6 l0_7 l0_8 l0_9).bind fun bt242 => ((laws_toHead.f k a1_0 a1_1 a1_2 l1_3 l1_4 a1_5 a1_6 l1_7 l1_8 l1_9).bind fun bt263 => ((impl_HeadSame.f k bt242.1 bt242.2.1 bt242.2.2.1 bt242.2.2.2.1 bt242.2.2.2.2.1 bt242.2.2.2.2.2.1 bt242.2.2.2.2.2.2.1 bt242.2.2.2.2.2.2.2.1 bt242.2.2.2.2.2.2.2.2.1 bt242.2.2.2.2.2.2.2.2.2 bt263.1 bt263.2.1 bt263.2.2.1 bt263.2.2.2.1 bt263.2.2.2.2.1 bt263.2.2.2.2.2.1 bt263.2.2.2.2.2.2.1 bt263.2.2.2.2.2.2.2.1 bt263.2.2.2.2.2.2.2.2.1 bt263.2.2.2.2.2.2.2.2.2).bind fun t284 => (if (t284 != t241) = true then (none) else ((laws_toHead.f k a0_0 a0_1 a0_2 l0_3 l0_4 a0_5 a0_6 l0_7 l0_8 l0_9).bind fun bt285 => ((laws_eqHead.f k bt242.1 bt242.2.1 bt242.2.2.1 bt242.2.2.2.1 bt242.2.2.2.2.1 bt242.2.2.2.2.2.1 bt242.2.2.2.2.2.2.1 bt242.2.2.2.2.2.2.2.1 bt242.2.2.2.2.2.2.2.2.1 bt242.2.2.2.2.2.2.2.2.2 bt285.1 bt285.2.1 bt285.2.2.1 bt285.2.2.2.1 bt285.2.2.2.2.1 bt285.2.2.2.2.2.1 bt285.2.2.2.2.2.2.1 bt285.2.2.2.2.2.2.2.1 bt285.2.2.2.2.2.2.2.2.1 bt285.2.2.2.2.2.2.2.2.2).bind fun t305 => (if t305 = true then ((laws_toHead.f k a1_0 a1_1 a1_2 l1_3 l1_4 a1_5 a1_6 l1_7 l1_8 l1_9).bind fun bt306 => ((laws_eqHead.f k bt263.1 bt263.2.1 bt263.2.2.1 bt263.2.2.2.1 bt263.2.2.2.2.1 bt263.2.2.2.2.2.1 bt263.2.2.2.2.2.2.1 bt263.2.2.2.2.2.2.2.1 bt263.2.2.2.2.2.2.2.2.1 bt263.2.2.2.2.2.2.2.2.2 bt306.1 bt306.2.1 bt306.2.2.1 bt306.2.2.2.1 bt306.2.2.2.2.1 bt306.2.2.2.2.2.1 bt306.2.2.2.2.2.2.1 bt306.2.2.2.2.2.2.2.1 bt306.2.2.2.2.2.2.2.2.1 bt306.2.2.2.2.2.2.2.2.2).bind fun t326 => (if t326 = true then (some true) else (none)))) else (none))))))))))))))) = some r := h
 clear h
 replace H := Option.bind_eq_some_iff.mp H
 obtain ⟨t199, A30, H⟩ := H
 replace H : (if t199 < 0 then (some true) else ((laws_szHead.f k a1_0 a1_1 a1_2 l1_3 l1_4 a1_5 a1_6 l1_7 l1_8 l1_9 t199).bind fun t200 => (if t200 < 0 then (some true) else ((laws_toHead.f k a0_0 a0_1 a0_2 l0_3 l0_4 a0_5 a0_6 l0_7 l0_8 l0_9).bind fun bt201 => ((laws_toHead.f k a1_0 a1_1 a1_2 l1_3 l1_4 a1_5 a1_6 l1_7 l1_8 l1_9).bind fun bt221 => ((spec_HeadSame.f k bt201.1 bt201.2.1 bt201.2.2.1 bt201.2.2.2.1 bt201.2.2.2.2.1 bt201.2.2.2.2.2.1 bt201.2.2.2.2.2.2.1 bt201.2.2.2.2.2.2.2.1 bt201.2.2.2.2.2.2.2.2.1 bt201.2.2.2.2.2.2.2.2.2 bt221.1 bt221.2.1 bt221.2.2.1 bt221.2.2.2.1 bt221.2.2.2.2.1 bt221.2.2.2.2.2.1 bt221.2.2.2.2.2.2.1 bt221.2.2.2.2.2.2.2.1 bt221.2.2.2.2.2.2.2.2.1 bt221.2.2.2.2.2.2.2.2.2).bind fun t241 => ((laws_toHead.f k a0_0 a0_1 a0_2 l0_3 l0_4 a0_5 a0_6 l0_7 l0_8 l0_9).bind fun bt242 => ((laws_toHead.f k a1_0 a1_1 a1_2 l1_3 l1_4 a1_5 a1_6 l1_7 l1_8 l1_9).bind fun bt263 => ((impl_HeadSame.f k bt242.1 bt242.2.1 bt242.2.2.1 bt242.2.2.2.1 bt242.2.2.2.2.1 bt242.2.2.2.2.2.1 bt242.2.2.2.2.2.2.1 bt242.2.2.2.2.2.2.2.1 bt242.2.2.2.2.2.2.2.2.1 bt242.2.2.2.2.2.2.2.2.2 bt263.1 bt263.2.1 bt263.2.2.1 bt263.2.2.2.1 bt263.2.2.2.2.1 bt263.2.2.2.2.2.1 bt263.2.2.2.2.2.2.1 bt263.2.2.2.2.2.2.2.1 bt263.2.2.2.2.2.2.2.2.1 bt263.2.2.2.2.2.2.2.2.2).bind fun t284 => (if (t284 != t241) = true then (none) else ((laws_toHead.f k a0_0 a0_1 a0_2 l0_3 l0_4 a0_5 a0_6 l0_7 l0_8 l0_9).bind fun bt285 => ((laws_eqHead.f k bt242.1 bt242.2.1 bt242.2.2.1 bt242.2.2.2.1 bt242.2.2.2.2.1 bt242.2.2.2.2.2.1 bt242.2.2.2.2.2.2.1 bt242.2.2.2.2.2.2.2.1 bt242.2.2.2.2.2.2.2.2.1 bt242.2.2.2.2.2.2.2.2.2 bt285.1 bt285.2.1 bt285.2.2.1 bt285.2.2.2.1 bt285.2.2.2.2.1 bt285.2.2.2.2.2.1 bt285.2.2.2.2.2.2.1 bt285.2.2.2.2.2.2.2.1 bt285.2.2.2.2.2.2.2.2.1 bt285.2.2.2.2.2.2.2.2.2).bind fun t305 => (if t305 = true then ((laws_toHead.f k a1_0 a1_1 a1_2 l1_3 l1_4 a1_5 a1_6 l1_7 l1_8 l1_9).bind fun bt306 => ((laws_eqHead.f k bt263.1 bt263.2.1 bt263.2.2.1 bt263.2.2.2.1 bt263.2.2.2.2.1 bt263.2.2.2.2.2.1 bt263.2.2.2.2.2.2.1 bt263.2.2.2.2.2.2.2.1 bt263.2.2.2.2.2.2.2.2.1 bt263.2.2.2.2.2.2.2.2.2 bt306.1 bt306.2.1 bt306.2.2.1 bt306.2.2.2.1 bt306.2.2.2.2.1 bt306.2.2.2.2.2.1 bt306.2.2.2.2.2.2.1 bt306.2.2.2.2.2.2.2.1 bt306.2.2.2.2.2.2.2.2.1 bt306.2.2.2.2.2.2.2.2.2).bind fun t326 => (if t326 = true then (some true) else (none)))) else (none)))))))))))))) = some r := H
 have A3 := Aside0.mk A30
 clear A30
 have HC4 := Aside0.mk H
 clear H
 go_enter Try.func5, Try.ntmps5
 go_upto_if 14 with (first | ((with_reducible refine gate_dst (N := 2) rfl ?_); refine box_event ?hg (N := 2) ?hd (cs := #[.int .i64 a0_0, .int .i64 a0_1, .int .i64 a0_2, .slice A0_3 l0_3.length c0_3, .slice A0_4 l0_4.length c0_4, .int .i64 a0_5, .int .i64 a0_6, .slice A0_7 l0_7.length c0_7, .slice A0_8 l0_8.length c0_8, .slice A0_9 l0_9.length c0_9]) (t := 50) ?hr ?_; (case hd => rfl); (case hg => rfl); (case hr => first | (go_simp; done) | (go_simp; rfl)); intro gb197 hg w5 hbox hb; have n0_ := Aside0.mk (below_step (by repeat (first | (with_reducible first | exact HB.out | apply below_alloc | apply pw_below_drewN | apply below_drew1) | exact HB.out)) hb); have n1_ := Aside0.mk (hbox); have n2_ := Aside0.mk ((by rw [hg]; exact (below_size (by repeat (first | (with_reducible first | exact HB.out | apply below_alloc | apply pw_below_drewN | apply below_drew1) | exact HB.out))) : w.heap.size ≤ gb197)); have n3_ := Aside0.mk ((by rw [hg]; exact (below_size (by repeat (first | (with_reducible first | exact HB.out | apply below_alloc | apply pw_below_drewN | apply below_drew1) | exact HB.out))) : w.heap.size ≤ gb197)); clear HB; have HB := n0_; have BK197 := n1_; have GW197 := n2_; have GE197 := n3_; clear n0_ n1_ n2_ n3_; clear hb hbox hg) | ((with_reducible refine gate_dst (N := 3) rfl ?_); refine box_event ?hg (N := 3) ?hd (cs := #[.int .i64 a1_0, .int .i64 a1_1, .int .i64 a1_2, .slice A1_3 l1_3.length c1_3, .slice A1_4 l1_4.length c1_4, .int .i64 a1_5, .int .i64 a1_6, .slice A1_7 l1_7.length c1_7, .slice A1_8 l1_8.length c1_8, .slice A1_9 l1_9.length c1_9]) (t := 50) ?hr ?_; (case hd => rfl); (case hg => rfl); (case hr => first | (go_simp; done) | (go_simp; rfl)); intro gb198 hg w6 hbox hb; have n0_ := Aside0.mk (blk_below (g := gb197) (o := .cells #[.int .i64 a0_0, .int .i64 a0_1, .int .i64 a0_2, .slice A0_3 l0_3.length c0_3, .slice A0_4 l0_4.length c0_4, .int .i64 a0_5, .int .i64 a0_6, .slice A0_7 l0_7.length c0_7, .slice A0_8 l0_8.length c0_8, .slice A0_9 l0_9.length c0_9] 50 (0, 0)) (blk_mv BK197) hb); have n1_ := Aside0.mk (below_step (by repeat (first | (with_reducible first | exact HB.out | apply below_alloc | apply pw_below_drewN | apply below_drew1 | refine below_set ?_ GE197.out) | exact HB.out)) hb); have n2_ := Aside0.mk (hbox); have n3_ := Aside0.mk ((by rw [hg]; exact (below_size (by repeat (first | (with_reducible first | exact HB.out | apply below_alloc | apply pw_below_drewN | apply below_drew1 | refine below_set ?_ GE197.out) | exact HB.out))) : w.heap.size ≤ gb198)); have n4_ := Aside0.mk ((by rw [hg]; exact (below_size (by repeat (first | (with_reducible first | exact HB.out | apply below_alloc | apply pw_below_drewN | apply below_drew1 | refine below_set ?_ GE197.out) | exact HB.out))) : w.heap.size ≤ gb198)); have n5_ := Aside0.mk ((by rw [hg]; exact Nat.ne_of_lt (blk_lt (g := gb197) (o := .cells #[.int .i64 a0_0, .int .i64 a0_1, .int .i64 a0_2, .slice A0_3 l0_3.length c0_3, .slice A0_4 l0_4.length c0_4, .int .i64 a0_5, .int .i64 a0_6, .slice A0_7 l0_7.length c0_7, .slice A0_8 l0_8.length c0_8, .slice A0_9 l0_9.length c0_9] 50 (0, 0)) (blk_mv BK197)) : gb197 ≠ gb198)); have n6_ := Aside0.mk ((by rw [hg]; exact Nat.ne_of_gt (blk_lt (g := gb197) (o := .cells #[.int .i64 a0_0, .int .i64 a0_1, .int .i64 a0_2, .slice A0_3 l0_3.length c0_3, .slice A0_4 l0_4.length c0_4, .int .i64 a0_5, .int .i64 a0_6, .slice A0_7 l0_7.length c0_7, .slice A0_8 l0_8.length c0_8, .slice A0_9 l0_9.length c0_9] 50 (0, 0)) (blk_mv BK197)) : gb198 ≠ gb197)); clear BK197; clear HB; have BK197 := n0_; have HB := n1_; have BK198 := n2_; have GW198 := n3_; have GE198 := n4_; have NB197_198 := n5_; have NB198_197 := n6_; clear n0_ n1_ n2_ n3_ n4_ n5_ n6_; clear hb hbox hg; have hnb7 := NB197_198.out; have hnc7 := NB198_197.out; have hcz8_0 : w6.cell? ⟨gb197, 0, none⟩ = some (.int .i64 a0_0) := (blk_cell BK197.out 0).trans rfl; have hcz8_1 : w6.cell? ⟨gb197, 1, none⟩ = some (.int .i64 a0_1) := (blk_cell BK197.out 1).trans rfl; have hcz8_2 : w6.cell? ⟨gb197, 2, none⟩ = some (.int .i64 a0_2) := (blk_cell BK197.out 2).trans rfl; have hcz8_3 : w6.cell? ⟨gb197, 3, none⟩ = some (.slice A0_3 l0_3.length c0_3) := (blk_cell BK197.out 3).trans rfl; have hcz8_4 : w6.cell? ⟨gb197, 4, none⟩ = some (.slice A0_4 l0_4.length c0_4) := (blk_cell BK197.out 4).trans rfl; have hcz8_5 : w6.cell? ⟨gb197, 5, none⟩ = some (.int .i64 a0_5) := (blk_cell BK197.out 5).trans rfl; have hcz8_6 : w6.cell? ⟨gb197, 6, none⟩ = some (.int .i64 a0_6) := (blk_cell BK197.out 6).trans rfl; have hcz8_7 : w6.cell? ⟨gb197, 7, none⟩ = some (.slice A0_7 l0_7.length c0_7) := (blk_cell BK197.out 7).trans rfl; have hcz8_8 : w6.cell? ⟨gb197, 8, none⟩ = some (.slice A0_8 l0_8.length c0_8) := (blk_cell BK197.out 8).trans rfl; have hcz8_9 : w6.cell? ⟨gb197, 9, none⟩ = some (.slice A0_9 l0_9.length c0_9) := (blk_cell BK197.out 9).trans rfl; have hfz8_0 := blk_frozen BK197.out 0; have hfz8_1 := blk_frozen BK197.out 1; have hfz8_2 := blk_frozen BK197.out 2; have hfz8_3 := blk_frozen BK197.out 3; have hfz8_4 := blk_frozen BK197.out 4; have hfz8_5 := blk_frozen BK197.out 5; have hfz8_6 := blk_frozen BK197.out 6; have hfz8_7 := blk_frozen BK197.out 7; have hfz8_8 := blk_frozen BK197.out 8; have hfz8_9 := blk_frozen BK197.out 9) | ((with_reducible refine gate_callee (f := 26) rfl ?_); refine goesL_ (some 12) rfl rfl Try.func26 (by kernel_rfl) rfl #[.agg #[.int .i64 a0_0, .int .i64 a0_1, .int .i64 a0_2, .slice A0_3 l0_3.length c0_3, .slice A0_4 l0_4.length c0_4, .int .i64 a0_5, .int .i64 a0_6, .slice A0_7 l0_7.length c0_7, .slice A0_8 l0_8.length c0_8, .slice A0_9 l0_9.length c0_9], .int .i64 1048576] rfl (by (try simp only [List.map_toArray, List.map_cons, List.map_nil]); first | done | rfl | (simp only [List.length_drop, List.length_take]; rfl)) ?_; (with_reducible refine (laws_szHead.calls k a0_0 a0_1 a0_2 _ _ l0_3 _ _ l0_4 a0_5 a0_6 _ _ l0_7 _ _ l0_8 _ _ l0_9 1048576 t199 _ ?side1 ?side2 ?side3 ?side4 ?side5 ?side6 ?side7 ?side8 ?side9 ?side10 A3.out).mono ?_); (case side1 => repeat (first | exact (Kd.C_below HR0_3.out HB.out) | (with_reducible refine Kd.C_alloc ?_ _) | (with_reducible refine Kd.C_drewN ?_ _) | (with_reducible refine Kd.C_drew ?_))); (case side2 => exact HC0_3.out); (case side3 => repeat (first | exact (Kd.C_below HR0_4.out HB.out) | (with_reducible refine Kd.C_alloc ?_ _) | (with_reducible refine Kd.C_drewN ?_ _) | (with_reducible refine Kd.C_drew ?_))); (case side4 => exact HC0_4.out); (case side5 => repeat (first | exact (Kd.C_below HR0_7.out HB.out) | (with_reducible refine Kd.C_alloc ?_ _) | (with_reducible refine Kd.C_drewN ?_ _) | (with_reducible refine Kd.C_drew ?_))); (case side6 => exact HC0_7.out); (case side7 => repeat (first | exact (Kd.C_below HR0_8.out HB.out) | (with_reducible refine Kd.C_alloc ?_ _) | (with_reducible refine Kd.C_drewN ?_ _) | (with_reducible refine Kd.C_drew ?_))); (case side8 => exact HC0_8.out); (case side9 => repeat (first | exact (Kd.C_below HR0_9.out HB.out) | (with_reducible refine Kd.C_alloc ?_ _) | (with_reducible refine Kd.C_drewN ?_ _) | (with_reducible refine Kd.C_drew ?_))); (case side10 => exact HC0_9.out); rintro e w9 ⟨rfl, hb⟩; refine ⟨_, rfl, ?_⟩; have n0_ := Aside0.mk (blk_below (g := gb197) (o := .cells #[.int .i64 a0_0, .int .i64 a0_1, .int .i64 a0_2, .slice A0_3 l0_3.length c0_3, .slice A0_4 l0_4.length c0_4, .int .i64 a0_5, .int .i64 a0_6, .slice A0_7 l0_7.length c0_7, .slice A0_8 l0_8.length c0_8, .slice A0_9 l0_9.length c0_9] 50 (0, 0)) (blk_mv BK197) hb); have n1_ := Aside0.mk (blk_below (g := gb198) (o := .cells #[.int .i64 a1_0, .int .i64 a1_1, .int .i64 a1_2, .slice A1_3 l1_3.length c1_3, .slice A1_4 l1_4.length c1_4, .int .i64 a1_5, .int .i64 a1_6, .slice A1_7 l1_7.length c1_7, .slice A1_8 l1_8.length c1_8, .slice A1_9 l1_9.length c1_9] 50 (0, 0)) (blk_mv BK198) hb); have n2_ := Aside0.mk (below_step (by repeat (first | (with_reducible first | exact HB.out | apply below_alloc | apply pw_below_drewN | apply below_drew1 | refine below_set ?_ GE197.out | refine below_set ?_ GE198.out) | exact HB.out)) hb); clear BK197; clear BK198; clear HB; have BK197 := n0_; have BK198 := n1_; have HB := n2_; clear n0_ n1_ n2_; (try clear hb); (try clear hb2); (try clear hk); (try clear hi)))
 (try simp only [Act.put, List.setIfInBounds_toArray, List.set_cons_zero, List.set_cons_succ])
 have H := HC4.out
 clear HC4
 by_cases c10 : t199 < 0
 ·rw [if_pos c10] at H
  have c10b0 : decide (t199 < 0) = true := decide_eq_true c10
  clear c10
  (first | rw [c10b0] | (simp only [i64_w, i32_w]; rw [c10b0]) | skip)
  obtain rfl := Option.some.inj H
  go_wp2
  go_ret
  exact ⟨by first | rfl | (simp [errW_none, errW_some] <;> rfl) | (simp [*, errW_none, errW_some] <;> rfl), by repeat (first | (with_reducible first | exact HB.out | apply below_alloc | apply pw_below_drewN | apply below_drew1 | refine below_set ?_ GE197.out | refine below_set ?_ GE198.out) | exact HB.out)⟩
 ·rw [if_neg c10] at H
  have c10b0 : decide (t199 < 0) = false := decide_eq_false c10
  clear c10
  (first | rw [c10b0] | (simp only [i64_w, i32_w]; rw [c10b0]) | skip)
  replace H := Option.bind_eq_some_iff.mp H
  obtain ⟨t200, A110, H⟩ := H
  replace H : (if t200 < 0 then (some true) else ((laws_toHead.f k a0_0 a0_1 a0_2 l0_3 l0_4 a0_5 a0_6 l0_7 l0_8 l0_9).bind fun bt201 => ((laws_toHead.f k a1_0 a1_1 a1_2 l1_3 l1_4 a1_5 a1_6 l1_7 l1_8 l1_9).bind fun bt221 => ((spec_HeadSame.f k bt201.1 bt201.2.1 bt201.2.2.1 bt201.2.2.2.1 bt201.2.2.2.2.1 bt201.2.2.2.2.2.1 bt201.2.2.2.2.2.2.1 bt201.2.2.2.2.2.2.2.1 bt201.2.2.2.2.2.2.2.2.1 bt201.2.2.2.2.2.2.2.2.2 bt221.1 bt221.2.1 bt221.2.2.1 bt221.2.2.2.1 bt221.2.2.2.2.1 bt221.2.2.2.2.2.1 bt221.2.2.2.2.2.2.1 bt221.2.2.2.2.2.2.2.1 bt221.2.2.2.2.2.2.2.2.1 bt221.2.2.2.2.2.2.2.2.2).bind fun t241 => ((laws_toHead.f k a0_0 a0_1 a0_2 l0_3 l0_4 a0_5 a0_6 l0_7 l0_8 l0_9).bind fun bt242 => ((laws_toHead.f k a1_0 a1_1 a1_2 l1_3 l1_4 a1_5 a1_6 l1_7 l1_8 l1_9).bind fun bt263 => ((impl_HeadSame.f k bt242.1 bt242.2.1 bt242.2.2.1 bt242.2.2.2.1 bt242.2.2.2.2.1 bt242.2.2.2.2.2.1 bt242.2.2.2.2.2.2.1 bt242.2.2.2.2.2.2.2.1 bt242.2.2.2.2.2.2.2.2.1 bt242.2.2.2.2.2.2.2.2.2 bt263.1 bt263.2.1 bt263.2.2.1 bt263.2.2.2.1 bt263.2.2.2.2.1 bt263.2.2.2.2.2.1 bt263.2.2.2.2.2.2.1 bt263.2.2.2.2.2.2.2.1 bt263.2.2.2.2.2.2.2.2.1 bt263.2.2.2.2.2.2.2.2.2).bind fun t284 => (if (t284 != t241) = true then (none) else ((laws_toHead.f k a0_0 a0_1 a0_2 l0_3 l0_4 a0_5 a0_6 l0_7 l0_8 l0_9).bind fun bt285 => ((laws_eqHead.f k bt242.1 bt242.2.1 bt242.2.2.1 bt242.2.2.2.1 bt242.2.2.2.2.1 bt242.2.2.2.2.2.1 bt242.2.2.2.2.2.2.1 bt242.2.2.2.2.2.2.2.1 bt242.2.2.2.2.2.2.2.2.1 bt242.2.2.2.2.2.2.2.2.2 bt285.1 bt285.2.1 bt285.2.2.1 bt285.2.2.2.1 bt285.2.2.2.2.1 bt285.2.2.2.2.2.1 bt285.2.2.2.2.2.2.1 bt285.2.2.2.2.2.2.2.1 bt285.2.2.2.2.2.2.2.2.1 bt285.2.2.2.2.2.2.2.2.2).bind fun t305 => (if t305 = true then ((laws_toHead.f k a1_0 a1_1 a1_2 l1_3 l1_4 a1_5 a1_6 l1_7 l1_8 l1_9).bind fun bt306 => ((laws_eqHead.f k bt263.1 bt263.2.1 bt263.2.2.1 bt263.2.2.2.1 bt263.2.2.2.2.1 bt263.2.2.2.2.2.1 bt263.2.2.2.2.2.2.1 bt263.2.2.2.2.2.2.2.1 bt263.2.2.2.2.2.2.2.2.1 bt263.2.2.2.2.2.2.2.2.2 bt306.1 bt306.2.1 bt306.2.2.1 bt306.2.2.2.1 bt306.2.2.2.2.1 bt306.2.2.2.2.2.1 bt306.2.2.2.2.2.2.1 bt306.2.2.2.2.2.2.2.1 bt306.2.2.2.2.2.2.2.2.1 bt306.2.2.2.2.2.2.2.2.2).bind fun t326 => (if t326 = true then (some true) else (none)))) else (none)))))))))))) = some r := H
  have A11 := Aside0.mk A110
  clear A110
  have HC12 := Aside0.mk H
  clear H
  have hnb13 := NB198_197.out
  have hnc13 := NB197_198.out
  have hcz14_0 : w9.cell? ⟨gb198, 0, none⟩ = some (.int .i64 a1_0) := (blk_cell BK198.out 0).trans rfl
  have hcz14_1 : w9.cell? ⟨gb198, 1, none⟩ = some (.int .i64 a1_1) := (blk_cell BK198.out 1).trans rfl
  have hcz14_2 : w9.cell? ⟨gb198, 2, none⟩ = some (.int .i64 a1_2) := (blk_cell BK198.out 2).trans rfl
  have hcz14_3 : w9.cell? ⟨gb198, 3, none⟩ = some (.slice A1_3 l1_3.length c1_3) := (blk_cell BK198.out 3).trans rfl
  have hcz14_4 : w9.cell? ⟨gb198, 4, none⟩ = some (.slice A1_4 l1_4.length c1_4) := (blk_cell BK198.out 4).trans rfl
  have hcz14_5 : w9.cell? ⟨gb198, 5, none⟩ = some (.int .i64 a1_5) := (blk_cell BK198.out 5).trans rfl
  have hcz14_6 : w9.cell? ⟨gb198, 6, none⟩ = some (.int .i64 a1_6) := (blk_cell BK198.out 6).trans rfl
  have hcz14_7 : w9.cell? ⟨gb198, 7, none⟩ = some (.slice A1_7 l1_7.length c1_7) := (blk_cell BK198.out 7).trans rfl
  have hcz14_8 : w9.cell? ⟨gb198, 8, none⟩ = some (.slice A1_8 l1_8.length c1_8) := (blk_cell BK198.out 8).trans rfl
  have hcz14_9 : w9.cell? ⟨gb198, 9, none⟩ = some (.slice A1_9 l1_9.length c1_9) := (blk_cell BK198.out 9).trans rfl
  have hfz14_0 := blk_frozen BK198.out 0
  have hfz14_1 := blk_frozen BK198.out 1
  have hfz14_2 := blk_frozen BK198.out 2
  have hfz14_3 := blk_frozen BK198.out 3
  have hfz14_4 := blk_frozen BK198.out 4
  have hfz14_5 := blk_frozen BK198.out 5
  have hfz14_6 := blk_frozen BK198.out 6
  have hfz14_7 := blk_frozen BK198.out 7
  have hfz14_8 := blk_frozen BK198.out 8
  have hfz14_9 := blk_frozen BK198.out 9
  go_upto_if 19 with (first | ((with_reducible refine gate_callee (f := 26) rfl ?_); refine goesL_ (some 17) rfl rfl Try.func26 (by kernel_rfl) rfl #[.agg #[.int .i64 a1_0, .int .i64 a1_1, .int .i64 a1_2, .slice A1_3 l1_3.length c1_3, .slice A1_4 l1_4.length c1_4, .int .i64 a1_5, .int .i64 a1_6, .slice A1_7 l1_7.length c1_7, .slice A1_8 l1_8.length c1_8, .slice A1_9 l1_9.length c1_9], .int .i64 t199] rfl (by (try simp only [List.map_toArray, List.map_cons, List.map_nil]); first | done | rfl | (simp only [List.length_drop, List.length_take]; rfl)) ?_; (with_reducible refine (laws_szHead.calls k a1_0 a1_1 a1_2 _ _ l1_3 _ _ l1_4 a1_5 a1_6 _ _ l1_7 _ _ l1_8 _ _ l1_9 t199 t200 _ ?side1 ?side2 ?side3 ?side4 ?side5 ?side6 ?side7 ?side8 ?side9 ?side10 A11.out).mono ?_); (case side1 => repeat (first | exact (Kd.C_below HR1_3.out HB.out) | (with_reducible refine Kd.C_alloc ?_ _) | (with_reducible refine Kd.C_drewN ?_ _) | (with_reducible refine Kd.C_drew ?_))); (case side2 => exact HC1_3.out); (case side3 => repeat (first | exact (Kd.C_below HR1_4.out HB.out) | (with_reducible refine Kd.C_alloc ?_ _) | (with_reducible refine Kd.C_drewN ?_ _) | (with_reducible refine Kd.C_drew ?_))); (case side4 => exact HC1_4.out); (case side5 => repeat (first | exact (Kd.C_below HR1_7.out HB.out) | (with_reducible refine Kd.C_alloc ?_ _) | (with_reducible refine Kd.C_drewN ?_ _) | (with_reducible refine Kd.C_drew ?_))); (case side6 => exact HC1_7.out); (case side7 => repeat (first | exact (Kd.C_below HR1_8.out HB.out) | (with_reducible refine Kd.C_alloc ?_ _) | (with_reducible refine Kd.C_drewN ?_ _) | (with_reducible refine Kd.C_drew ?_))); (case side8 => exact HC1_8.out); (case side9 => repeat (first | exact (Kd.C_below HR1_9.out HB.out) | (with_reducible refine Kd.C_alloc ?_ _) | (with_reducible refine Kd.C_drewN ?_ _) | (with_reducible refine Kd.C_drew ?_))); (case side10 => exact HC1_9.out); rintro e w15 ⟨rfl, hb⟩; refine ⟨_, rfl, ?_⟩; have n0_ := Aside0.mk (blk_below (g := gb197) (o := .cells #[.int .i64 a0_0, .int .i64 a0_1, .int .i64 a0_2, .slice A0_3 l0_3.length c0_3, .slice A0_4 l0_4.length c0_4, .int .i64 a0_5, .int .i64 a0_6, .slice A0_7 l0_7.length c0_7, .slice A0_8 l0_8.length c0_8, .slice A0_9 l0_9.length c0_9] 50 (0, 0)) (blk_mv BK197) hb); have n1_ := Aside0.mk (blk_below (g := gb198) (o := .cells #[.int .i64 a1_0, .int .i64 a1_1, .int .i64 a1_2, .slice A1_3 l1_3.length c1_3, .slice A1_4 l1_4.length c1_4, .int .i64 a1_5, .int .i64 a1_6, .slice A1_7 l1_7.length c1_7, .slice A1_8 l1_8.length c1_8, .slice A1_9 l1_9.length c1_9] 50 (0, 0)) (blk_mv BK198) hb); have n2_ := Aside0.mk (below_step (by repeat (first | (with_reducible first | exact HB.out | apply below_alloc | apply pw_below_drewN | apply below_drew1 | refine below_set ?_ GE197.out | refine below_set ?_ GE198.out) | exact HB.out)) hb); clear BK197; clear BK198; clear HB; have BK197 := n0_; have BK198 := n1_; have HB := n2_; clear n0_ n1_ n2_; (try clear hb); (try clear hb2); (try clear hk); (try clear hi)))
  (try simp only [Act.put, List.setIfInBounds_toArray, List.set_cons_zero, List.set_cons_succ])
  have H := HC12.out
  clear HC12
  by_cases c16 : t200 < 0
  ·rw [if_pos c16] at H
   have c16b0 : decide (t200 < 0) = true := decide_eq_true c16
   clear c16
   (first | rw [c16b0] | (simp only [i64_w, i32_w]; rw [c16b0]) | skip)
   obtain rfl := Option.some.inj H
   go_wp2
   go_ret
   exact ⟨by first | rfl | (simp [errW_none, errW_some] <;> rfl) | (simp [*, errW_none, errW_some] <;> rfl), by repeat (first | (with_reducible first | exact HB.out | apply below_alloc | apply pw_below_drewN | apply below_drew1 | refine below_set ?_ GE197.out | refine below_set ?_ GE198.out) | exact HB.out)⟩
  ·rw [if_neg c16] at H
   have c16b0 : decide (t200 < 0) = false := decide_eq_false c16
   clear c16
   (first | rw [c16b0] | (simp only [i64_w, i32_w]; rw [c16b0]) | skip)
   replace H := Option.bind_eq_some_iff.mp H
   obtain ⟨⟨t201, t202, t203, t204, t207, t210, t211, t212, t215, t218⟩, A170, H⟩ := H
   replace H : ((laws_toHead.f k a1_0 a1_1 a1_2 l1_3 l1_4 a1_5 a1_6 l1_7 l1_8 l1_9).bind fun bt221 => ((spec_HeadSame.f k t201 t202 t203 t204 t207 t210 t211 t212 t215 t218 bt221.1 bt221.2.1 bt221.2.2.1 bt221.2.2.2.1 bt221.2.2.2.2.1 bt221.2.2.2.2.2.1 bt221.2.2.2.2.2.2.1 bt221.2.2.2.2.2.2.2.1 bt221.2.2.2.2.2.2.2.2.1 bt221.2.2.2.2.2.2.2.2.2).bind fun t241 => ((laws_toHead.f k a0_0 a0_1 a0_2 l0_3 l0_4 a0_5 a0_6 l0_7 l0_8 l0_9).bind fun bt242 => ((laws_toHead.f k a1_0 a1_1 a1_2 l1_3 l1_4 a1_5 a1_6 l1_7 l1_8 l1_9).bind fun bt263 => ((impl_HeadSame.f k bt242.1 bt242.2.1 bt242.2.2.1 bt242.2.2.2.1 bt242.2.2.2.2.1 bt242.2.2.2.2.2.1 bt242.2.2.2.2.2.2.1 bt242.2.2.2.2.2.2.2.1 bt242.2.2.2.2.2.2.2.2.1 bt242.2.2.2.2.2.2.2.2.2 bt263.1 bt263.2.1 bt263.2.2.1 bt263.2.2.2.1 bt263.2.2.2.2.1 bt263.2.2.2.2.2.1 bt263.2.2.2.2.2.2.1 bt263.2.2.2.2.2.2.2.1 bt263.2.2.2.2.2.2.2.2.1 bt263.2.2.2.2.2.2.2.2.2).bind fun t284 => (if (t284 != t241) = true then (none) else ((laws_toHead.f k a0_0 a0_1 a0_2 l0_3 l0_4 a0_5 a0_6 l0_7 l0_8 l0_9).bind fun bt285 => ((laws_eqHead.f k bt242.1 bt242.2.1 bt242.2.2.1 bt242.2.2.2.1 bt242.2.2.2.2.1 bt242.2.2.2.2.2.1 bt242.2.2.2.2.2.2.1 bt242.2.2.2.2.2.2.2.1 bt242.2.2.2.2.2.2.2.2.1 bt242.2.2.2.2.2.2.2.2.2 bt285.1 bt285.2.1 bt285.2.2.1 bt285.2.2.2.1 bt285.2.2.2.2.1 bt285.2.2.2.2.2.1 bt285.2.2.2.2.2.2.1 bt285.2.2.2.2.2.2.2.1 bt285.2.2.2.2.2.2.2.2.1 bt285.2.2.2.2.2.2.2.2.2).bind fun t305 => (if t305 = true then ((laws_toHead.f k a1_0 a1_1 a1_2 l1_3 l1_4 a1_5 a1_6 l1_7 l1_8 l1_9).bind fun bt306 => ((laws_eqHead.f k bt263.1 bt263.2.1 bt263.2.2.1 bt263.2.2.2.1 bt263.2.2.2.2.1 bt263.2.2.2.2.2.1 bt263.2.2.2.2.2.2.1 bt263.2.2.2.2.2.2.2.1 bt263.2.2.2.2.2.2.2.2.1 bt263.2.2.2.2.2.2.2.2.2 bt306.1 bt306.2.1 bt306.2.2.1 bt306.2.2.2.1 bt306.2.2.2.2.1 bt306.2.2.2.2.2.1 bt306.2.2.2.2.2.2.1 bt306.2.2.2.2.2.2.2.1 bt306.2.2.2.2.2.2.2.2.1 bt306.2.2.2.2.2.2.2.2.2).bind fun t326 => (if t326 = true then (some true) else (none)))) else (none)))))))))) = some r := H
   have A17 := Aside0.mk A170
   clear A170
   replace H := Option.bind_eq_some_iff.mp H
   obtain ⟨⟨t221, t222, t223, t224, t227, t230, t231, t232, t235, t238⟩, A180, H⟩ := H
   replace H : ((spec_HeadSame.f k t201 t202 t203 t204 t207 t210 t211 t212 t215 t218 t221 t222 t223 t224 t227 t230 t231 t232 t235 t238).bind fun t241 => ((laws_toHead.f k a0_0 a0_1 a0_2 l0_3 l0_4 a0_5 a0_6 l0_7 l0_8 l0_9).bind fun bt242 => ((laws_toHead.f k a1_0 a1_1 a1_2 l1_3 l1_4 a1_5 a1_6 l1_7 l1_8 l1_9).bind fun bt263 => ((impl_HeadSame.f k bt242.1 bt242.2.1 bt242.2.2.1 bt242.2.2.2.1 bt242.2.2.2.2.1 bt242.2.2.2.2.2.1 bt242.2.2.2.2.2.2.1 bt242.2.2.2.2.2.2.2.1 bt242.2.2.2.2.2.2.2.2.1 bt242.2.2.2.2.2.2.2.2.2 bt263.1 bt263.2.1 bt263.2.2.1 bt263.2.2.2.1 bt263.2.2.2.2.1 bt263.2.2.2.2.2.1 bt263.2.2.2.2.2.2.1 bt263.2.2.2.2.2.2.2.1 bt263.2.2.2.2.2.2.2.2.1 bt263.2.2.2.2.2.2.2.2.2).bind fun t284 => (if (t284 != t241) = true then (none) else ((laws_toHead.f k a0_0 a0_1 a0_2 l0_3 l0_4 a0_5 a0_6 l0_7 l0_8 l0_9).bind fun bt285 => ((laws_eqHead.f k bt242.1 bt242.2.1 bt242.2.2.1 bt242.2.2.2.1 bt242.2.2.2.2.1 bt242.2.2.2.2.2.1 bt242.2.2.2.2.2.2.1 bt242.2.2.2.2.2.2.2.1 bt242.2.2.2.2.2.2.2.2.1 bt242.2.2.2.2.2.2.2.2.2 bt285.1 bt285.2.1 bt285.2.2.1 bt285.2.2.2.1 bt285.2.2.2.2.1 bt285.2.2.2.2.2.1 bt285.2.2.2.2.2.2.1 bt285.2.2.2.2.2.2.2.1 bt285.2.2.2.2.2.2.2.2.1 bt285.2.2.2.2.2.2.2.2.2).bind fun t305 => (if t305 = true then ((laws_toHead.f k a1_0 a1_1 a1_2 l1_3 l1_4 a1_5 a1_6 l1_7 l1_8 l1_9).bind fun bt306 => ((laws_eqHead.f k bt263.1 bt263.2.1 bt263.2.2.1 bt263.2.2.2.1 bt263.2.2.2.2.1 bt263.2.2.2.2.2.1 bt263.2.2.2.2.2.2.1 bt263.2.2.2.2.2.2.2.1 bt263.2.2.2.2.2.2.2.2.1 bt263.2.2.2.2.2.2.2.2.2 bt306.1 bt306.2.1 bt306.2.2.1 bt306.2.2.2.1 bt306.2.2.2.2.1 bt306.2.2.2.2.2.1 bt306.2.2.2.2.2.2.1 bt306.2.2.2.2.2.2.2.1 bt306.2.2.2.2.2.2.2.2.1 bt306.2.2.2.2.2.2.2.2.2).bind fun t326 => (if t326 = true then (some true) else (none)))) else (none))))))))) = some r := H
   have A18 := Aside0.mk A180
   clear A180
   replace H := Option.bind_eq_some_iff.mp H
   obtain ⟨t241, A190, H⟩ := H
   replace H : ((laws_toHead.f k a0_0 a0_1 a0_2 l0_3 l0_4 a0_5 a0_6 l0_7 l0_8 l0_9).bind fun bt242 => ((laws_toHead.f k a1_0 a1_1 a1_2 l1_3 l1_4 a1_5 a1_6 l1_7 l1_8 l1_9).bind fun bt263 => ((impl_HeadSame.f k bt242.1 bt242.2.1 bt242.2.2.1 bt242.2.2.2.1 bt242.2.2.2.2.1 bt242.2.2.2.2.2.1 bt242.2.2.2.2.2.2.1 bt242.2.2.2.2.2.2.2.1 bt242.2.2.2.2.2.2.2.2.1 bt242.2.2.2.2.2.2.2.2.2 bt263.1 bt263.2.1 bt263.2.2.1 bt263.2.2.2.1 bt263.2.2.2.2.1 bt263.2.2.2.2.2.1 bt263.2.2.2.2.2.2.1 bt263.2.2.2.2.2.2.2.1 bt263.2.2.2.2.2.2.2.2.1 bt263.2.2.2.2.2.2.2.2.2).bind fun t284 => (if (t284 != t241) = true then (none) else ((laws_toHead.f k a0_0 a0_1 a0_2 l0_3 l0_4 a0_5 a0_6 l0_7 l0_8 l0_9).bind fun bt285 => ((laws_eqHead.f k bt242.1 bt242.2.1 bt242.2.2.1 bt242.2.2.2.1 bt242.2.2.2.2.1 bt242.2.2.2.2.2.1 bt242.2.2.2.2.2.2.1 bt242.2.2.2.2.2.2.2.1 bt242.2.2.2.2.2.2.2.2.1 bt242.2.2.2.2.2.2.2.2.2 bt285.1 bt285.2.1 bt285.2.2.1 bt285.2.2.2.1 bt285.2.2.2.2.1 bt285.2.2.2.2.2.1 bt285.2.2.2.2.2.2.1 bt285.2.2.2.2.2.2.2.1 bt285.2.2.2.2.2.2.2.2.1 bt285.2.2.2.2.2.2.2.2.2).bind fun t305 => (if t305 = true then ((laws_toHead.f k a1_0 a1_1 a1_2 l1_3 l1_4 a1_5 a1_6 l1_7 l1_8 l1_9).bind fun bt306 => ((laws_eqHead.f k bt263.1 bt263.2.1 bt263.2.2.1 bt263.2.2.2.1 bt263.2.2.2.2.1 bt263.2.2.2.2.2.1 bt263.2.2.2.2.2.2.1 bt263.2.2.2.2.2.2.2.1 bt263.2.2.2.2.2.2.2.2.1 bt263.2.2.2.2.2.2.2.2.2 bt306.1 bt306.2.1 bt306.2.2.1 bt306.2.2.2.1 bt306.2.2.2.2.1 bt306.2.2.2.2.2.1 bt306.2.2.2.2.2.2.1 bt306.2.2.2.2.2.2.2.1 bt306.2.2.2.2.2.2.2.2.1 bt306.2.2.2.2.2.2.2.2.2).bind fun t326 => (if t326 = true then (some true) else (none)))) else (none)))))))) = some r := H
   have A19 := Aside0.mk A190
   clear A190
   replace H := Option.bind_eq_some_iff.mp H
   obtain ⟨⟨t242, t243, t244, t245, t248, t251, t252, t253, t256, t259⟩, A200, H⟩ := H
   replace H : ((laws_toHead.f k a1_0 a1_1 a1_2 l1_3 l1_4 a1_5 a1_6 l1_7 l1_8 l1_9).bind fun bt263 => ((impl_HeadSame.f k t242 t243 t244 t245 t248 t251 t252 t253 t256 t259 bt263.1 bt263.2.1 bt263.2.2.1 bt263.2.2.2.1 bt263.2.2.2.2.1 bt263.2.2.2.2.2.1 bt263.2.2.2.2.2.2.1 bt263.2.2.2.2.2.2.2.1 bt263.2.2.2.2.2.2.2.2.1 bt263.2.2.2.2.2.2.2.2.2).bind fun t284 => (if (t284 != t241) = true then (none) else ((laws_toHead.f k a0_0 a0_1 a0_2 l0_3 l0_4 a0_5 a0_6 l0_7 l0_8 l0_9).bind fun bt285 => ((laws_eqHead.f k t242 t243 t244 t245 t248 t251 t252 t253 t256 t259 bt285.1 bt285.2.1 bt285.2.2.1 bt285.2.2.2.1 bt285.2.2.2.2.1 bt285.2.2.2.2.2.1 bt285.2.2.2.2.2.2.1 bt285.2.2.2.2.2.2.2.1 bt285.2.2.2.2.2.2.2.2.1 bt285.2.2.2.2.2.2.2.2.2).bind fun t305 => (if t305 = true then ((laws_toHead.f k a1_0 a1_1 a1_2 l1_3 l1_4 a1_5 a1_6 l1_7 l1_8 l1_9).bind fun bt306 => ((laws_eqHead.f k bt263.1 bt263.2.1 bt263.2.2.1 bt263.2.2.2.1 bt263.2.2.2.2.1 bt263.2.2.2.2.2.1 bt263.2.2.2.2.2.2.1 bt263.2.2.2.2.2.2.2.1 bt263.2.2.2.2.2.2.2.2.1 bt263.2.2.2.2.2.2.2.2.2 bt306.1 bt306.2.1 bt306.2.2.1 bt306.2.2.2.1 bt306.2.2.2.2.1 bt306.2.2.2.2.2.1 bt306.2.2.2.2.2.2.1 bt306.2.2.2.2.2.2.2.1 bt306.2.2.2.2.2.2.2.2.1 bt306.2.2.2.2.2.2.2.2.2).bind fun t326 => (if t326 = true then (some true) else (none)))) else (none))))))) = some r := H
   have A20 := Aside0.mk A200
   clear A200
   replace H := Option.bind_eq_some_iff.mp H
   obtain ⟨⟨t263, t264, t265, t266, t269, t272, t273, t274, t277, t280⟩, A210, H⟩ := H
   replace H : ((impl_HeadSame.f k t242 t243 t244 t245 t248 t251 t252 t253 t256 t259 t263 t264 t265 t266 t269 t272 t273 t274 t277 t280).bind fun t284 => (if (t284 != t241) = true then (none) else ((laws_toHead.f k a0_0 a0_1 a0_2 l0_3 l0_4 a0_5 a0_6 l0_7 l0_8 l0_9).bind fun bt285 => ((laws_eqHead.f k t242 t243 t244 t245 t248 t251 t252 t253 t256 t259 bt285.1 bt285.2.1 bt285.2.2.1 bt285.2.2.2.1 bt285.2.2.2.2.1 bt285.2.2.2.2.2.1 bt285.2.2.2.2.2.2.1 bt285.2.2.2.2.2.2.2.1 bt285.2.2.2.2.2.2.2.2.1 bt285.2.2.2.2.2.2.2.2.2).bind fun t305 => (if t305 = true then ((laws_toHead.f k a1_0 a1_1 a1_2 l1_3 l1_4 a1_5 a1_6 l1_7 l1_8 l1_9).bind fun bt306 => ((laws_eqHead.f k t263 t264 t265 t266 t269 t272 t273 t274 t277 t280 bt306.1 bt306.2.1 bt306.2.2.1 bt306.2.2.2.1 bt306.2.2.2.2.1 bt306.2.2.2.2.2.1 bt306.2.2.2.2.2.2.1 bt306.2.2.2.2.2.2.2.1 bt306.2.2.2.2.2.2.2.2.1 bt306.2.2.2.2.2.2.2.2.2).bind fun t326 => (if t326 = true then (some true) else (none)))) else (none)))))) = some r := H
   have A21 := Aside0.mk A210
   clear A210
   replace H := Option.bind_eq_some_iff.mp H
   obtain ⟨t284, A220, H⟩ := H
   replace H : (if (t284 != t241) = true then (none) else ((laws_toHead.f k a0_0 a0_1 a0_2 l0_3 l0_4 a0_5 a0_6 l0_7 l0_8 l0_9).bind fun bt285 => ((laws_eqHead.f k t242 t243 t244 t245 t248 t251 t252 t253 t256 t259 bt285.1 bt285.2.1 bt285.2.2.1 bt285.2.2.2.1 bt285.2.2.2.2.1 bt285.2.2.2.2.2.1 bt285.2.2.2.2.2.2.1 bt285.2.2.2.2.2.2.2.1 bt285.2.2.2.2.2.2.2.2.1 bt285.2.2.2.2.2.2.2.2.2).bind fun t305 => (if t305 = true then ((laws_toHead.f k a1_0 a1_1 a1_2 l1_3 l1_4 a1_5 a1_6 l1_7 l1_8 l1_9).bind fun bt306 => ((laws_eqHead.f k t263 t264 t265 t266 t269 t272 t273 t274 t277 t280 bt306.1 bt306.2.1 bt306.2.2.1 bt306.2.2.2.1 bt306.2.2.2.2.1 bt306.2.2.2.2.2.1 bt306.2.2.2.2.2.2.1 bt306.2.2.2.2.2.2.2.1 bt306.2.2.2.2.2.2.2.2.1 bt306.2.2.2.2.2.2.2.2.2).bind fun t326 => (if t326 = true then (some true) else (none)))) else (none))))) = some r := H
   have A22 := Aside0.mk A220
   clear A220
   by_cases c23 : (t284 != t241) = true
   ·rw [if_pos c23] at H
    exact absurd H (by simp)
   ·rw [if_neg c23] at H
    have c23b0 : (t284 != t241) = false := by simpa using c23
    (try (have c23b1 : decide (t284 = t241) = true := by simpa using c23))
    (try (have c23b2 : (t284 == t241) = true := by simpa using c23))
    clear c23
    replace H := Option.bind_eq_some_iff.mp H
    obtain ⟨⟨t285, t286, t287, t288, t291, t294, t295, t296, t299, t302⟩, A240, H⟩ := H
    replace H : ((laws_eqHead.f k t242 t243 t244 t245 t248 t251 t252 t253 t256 t259 t285 t286 t287 t288 t291 t294 t295 t296 t299 t302).bind fun t305 => (if t305 = true then ((laws_toHead.f k a1_0 a1_1 a1_2 l1_3 l1_4 a1_5 a1_6 l1_7 l1_8 l1_9).bind fun bt306 => ((laws_eqHead.f k t263 t264 t265 t266 t269 t272 t273 t274 t277 t280 bt306.1 bt306.2.1 bt306.2.2.1 bt306.2.2.2.1 bt306.2.2.2.2.1 bt306.2.2.2.2.2.1 bt306.2.2.2.2.2.2.1 bt306.2.2.2.2.2.2.2.1 bt306.2.2.2.2.2.2.2.2.1 bt306.2.2.2.2.2.2.2.2.2).bind fun t326 => (if t326 = true then (some true) else (none)))) else (none))) = some r := H
    have A24 := Aside0.mk A240
    clear A240
    replace H := Option.bind_eq_some_iff.mp H
    obtain ⟨t305, A250, H⟩ := H
    replace H : (if t305 = true then ((laws_toHead.f k a1_0 a1_1 a1_2 l1_3 l1_4 a1_5 a1_6 l1_7 l1_8 l1_9).bind fun bt306 => ((laws_eqHead.f k t263 t264 t265 t266 t269 t272 t273 t274 t277 t280 bt306.1 bt306.2.1 bt306.2.2.1 bt306.2.2.2.1 bt306.2.2.2.2.1 bt306.2.2.2.2.2.1 bt306.2.2.2.2.2.2.1 bt306.2.2.2.2.2.2.2.1 bt306.2.2.2.2.2.2.2.2.1 bt306.2.2.2.2.2.2.2.2.2).bind fun t326 => (if t326 = true then (some true) else (none)))) else (none)) = some r := H
    have A25 := Aside0.mk A250
    clear A250
    by_cases c26 : t305 = true
    ·subst c26
     have H1 : ((laws_toHead.f k a1_0 a1_1 a1_2 l1_3 l1_4 a1_5 a1_6 l1_7 l1_8 l1_9).bind fun bt306 => ((laws_eqHead.f k t263 t264 t265 t266 t269 t272 t273 t274 t277 t280 bt306.1 bt306.2.1 bt306.2.2.1 bt306.2.2.2.1 bt306.2.2.2.2.1 bt306.2.2.2.2.2.1 bt306.2.2.2.2.2.2.1 bt306.2.2.2.2.2.2.2.1 bt306.2.2.2.2.2.2.2.2.1 bt306.2.2.2.2.2.2.2.2.2).bind fun t326 => (if t326 = true then (some true) else (none)))) = some r := by rw [if_pos rfl] at H; exact H
     clear H
     have H := H1
     clear H1
     replace H := Option.bind_eq_some_iff.mp H
     obtain ⟨⟨t306, t307, t308, t309, t312, t315, t316, t317, t320, t323⟩, A270, H⟩ := H
     replace H : ((laws_eqHead.f k t263 t264 t265 t266 t269 t272 t273 t274 t277 t280 t306 t307 t308 t309 t312 t315 t316 t317 t320 t323).bind fun t326 => (if t326 = true then (some true) else (none))) = some r := H
     have A27 := Aside0.mk A270
     clear A270
     replace H := Option.bind_eq_some_iff.mp H
     obtain ⟨t326, A280, H⟩ := H
     replace H : (if t326 = true then (some true) else (none)) = some r := H
     have A28 := Aside0.mk A280
     clear A280
     by_cases c29 : t326 = true
     ·subst c29
      have H1 : (some true) = some r := by rw [if_pos rfl] at H; exact H
      clear H
      have H := H1
      clear H1
      obtain rfl := Option.some.inj H
      try go_wp2
      have n0_ := Aside0.mk (blk_drew BK197.out)
      have n1_ := Aside0.mk (blk_drew BK198.out)
      have n2_ := Aside0.mk (below_drew1 HB.out)
      clear BK197
      clear BK198
      clear HB
      have BK197 := n0_
      have BK198 := n1_
      have HB := n2_
      clear n0_ n1_ n2_
      refine start_ (n := 6) (S := fun w' => w'.cell? ⟨gb197, 0, none⟩ = some (.int .i64 a0_0) ∧ w'.cell? ⟨gb197, 1, none⟩ = some (.int .i64 a0_1) ∧ w'.cell? ⟨gb197, 2, none⟩ = some (.int .i64 a0_2) ∧ w'.cell? ⟨gb197, 3, none⟩ = some (.slice A0_3 l0_3.length c0_3) ∧ w'.cell? ⟨gb197, 4, none⟩ = some (.slice A0_4 l0_4.length c0_4) ∧ w'.cell? ⟨gb197, 5, none⟩ = some (.int .i64 a0_5) ∧ w'.cell? ⟨gb197, 6, none⟩ = some (.int .i64 a0_6) ∧ w'.cell? ⟨gb197, 7, none⟩ = some (.slice A0_7 l0_7.length c0_7) ∧ w'.cell? ⟨gb197, 8, none⟩ = some (.slice A0_8 l0_8.length c0_8) ∧ w'.cell? ⟨gb197, 9, none⟩ = some (.slice A0_9 l0_9.length c0_9) ∧ w'.cell? ⟨gb198, 0, none⟩ = some (.int .i64 a1_0) ∧ w'.cell? ⟨gb198, 1, none⟩ = some (.int .i64 a1_1) ∧ w'.cell? ⟨gb198, 2, none⟩ = some (.int .i64 a1_2) ∧ w'.cell? ⟨gb198, 3, none⟩ = some (.slice A1_3 l1_3.length c1_3) ∧ w'.cell? ⟨gb198, 4, none⟩ = some (.slice A1_4 l1_4.length c1_4) ∧ w'.cell? ⟨gb198, 5, none⟩ = some (.int .i64 a1_5) ∧ w'.cell? ⟨gb198, 6, none⟩ = some (.int .i64 a1_6) ∧ w'.cell? ⟨gb198, 7, none⟩ = some (.slice A1_7 l1_7.length c1_7) ∧ w'.cell? ⟨gb198, 8, none⟩ = some (.slice A1_8 l1_8.length c1_8) ∧ w'.cell? ⟨gb198, 9, none⟩ = some (.slice A1_9 l1_9.length c1_9)) (ds := []) #[false, false, false, false, false, false] (by kernel_rfl) rfl rfl ⟨(blk_cell BK197.out 0).trans rfl, (blk_cell BK197.out 1).trans rfl, (blk_cell BK197.out 2).trans rfl, (blk_cell BK197.out 3).trans rfl, (blk_cell BK197.out 4).trans rfl, (blk_cell BK197.out 5).trans rfl, (blk_cell BK197.out 6).trans rfl, (blk_cell BK197.out 7).trans rfl, (blk_cell BK197.out 8).trans rfl, (blk_cell BK197.out 9).trans rfl, (blk_cell BK198.out 0).trans rfl, (blk_cell BK198.out 1).trans rfl, (blk_cell BK198.out 2).trans rfl, (blk_cell BK198.out 3).trans rfl, (blk_cell BK198.out 4).trans rfl, (blk_cell BK198.out 5).trans rfl, (blk_cell BK198.out 6).trans rfl, (blk_cell BK198.out 7).trans rfl, (blk_cell BK198.out 8).trans rfl, (blk_cell BK198.out 9).trans rfl⟩ (fun hHeld => ?_)
      generalize w15.drew = w30 at BK197 BK198 HB hHeld ⊢
      refine take_ (i := 0) (N := some 20) (v := ?_) (a' := ?_) #[true, false, false, false, false, false] rfl rfl (by kernel_rfl) (fun _ _ _ h => h) (Or.inl ⟨by rfl, ?_⟩) hHeld ?_ ?_
      rotate_left
      ·rintro w' ⟨s0, s1, s2, s3, s4, s5, s6, s7, s8, s9, s10, s11, s12, s13, s14, s15, s16, s17, s18, s19⟩
       go_simp
       with_reducible rfl
      rotate_left
      ·simp only [Act.put, List.setIfInBounds_toArray, List.set_cons_zero, List.set_cons_succ, i64_w, i32_w]
       rfl
      refine take_ (i := 2) (N := some 22) (v := ?_) (a' := ?_) #[true, false, true, false, false, false] rfl rfl (by kernel_rfl) (fun _ _ _ h => h) (Or.inl ⟨by rfl, ?_⟩) hHeld ?_ ?_
      rotate_left
      ·rintro w' ⟨s0, s1, s2, s3, s4, s5, s6, s7, s8, s9, s10, s11, s12, s13, s14, s15, s16, s17, s18, s19⟩
       go_simp
       with_reducible rfl
      rotate_left
      ·simp only [Act.put, List.setIfInBounds_toArray, List.set_cons_zero, List.set_cons_succ, i64_w, i32_w]
       rfl
      refine one_ (i := 1) (N := some 21) #[true, true, true, false, false, false] rfl rfl (by kernel_rfl) (by decide) (fun K hK => ?_)
      refine goes_ Try.func28 (by kernel_rfl) rfl #[.agg #[.int .i64 a0_0, .int .i64 a0_1, .int .i64 a0_2, .slice A0_3 l0_3.length c0_3, .slice A0_4 l0_4.length c0_4, .int .i64 a0_5, .int .i64 a0_6, .slice A0_7 l0_7.length c0_7, .slice A0_8 l0_8.length c0_8, .slice A0_9 l0_9.length c0_9]] (by rfl) rfl rfl (by (try simp only [List.map_toArray, List.map_cons, List.map_nil]); first | done | rfl | (simp only [List.length_drop, List.length_take]; rfl)) ?_
      with_reducible refine (laws_toHead.calls k a0_0 a0_1 a0_2 _ _ l0_3 _ _ l0_4 a0_5 a0_6 _ _ l0_7 _ _ l0_8 _ _ l0_9 t201 t202 t203 t204 t207 t210 t211 t212 t215 t218 _ ?side1 ?side2 ?side3 ?side4 ?side5 ?side6 ?side7 ?side8 ?side9 ?side10 A17.out).mono ?_
      (case side1 => repeat (first | exact (Kd.C_below HR0_3.out HB.out) | (with_reducible refine Kd.C_alloc ?_ _) | (with_reducible refine Kd.C_drewN ?_ _) | (with_reducible refine Kd.C_drew ?_)))
      (case side2 => exact HC0_3.out)
      (case side3 => repeat (first | exact (Kd.C_below HR0_4.out HB.out) | (with_reducible refine Kd.C_alloc ?_ _) | (with_reducible refine Kd.C_drewN ?_ _) | (with_reducible refine Kd.C_drew ?_)))
      (case side4 => exact HC0_4.out)
      (case side5 => repeat (first | exact (Kd.C_below HR0_7.out HB.out) | (with_reducible refine Kd.C_alloc ?_ _) | (with_reducible refine Kd.C_drewN ?_ _) | (with_reducible refine Kd.C_drew ?_)))
      (case side6 => exact HC0_7.out)
      (case side7 => repeat (first | exact (Kd.C_below HR0_8.out HB.out) | (with_reducible refine Kd.C_alloc ?_ _) | (with_reducible refine Kd.C_drewN ?_ _) | (with_reducible refine Kd.C_drew ?_)))
      (case side8 => exact HC0_8.out)
      (case side9 => repeat (first | exact (Kd.C_below HR0_9.out HB.out) | (with_reducible refine Kd.C_alloc ?_ _) | (with_reducible refine Kd.C_drewN ?_ _) | (with_reducible refine Kd.C_drew ?_)))
      (case side10 => exact HC0_9.out)
      rintro e w31 ⟨v205, v208, v213, v216, v219, rfl, ho0, ho1, ho2, ho3, ho4, hb⟩
      refine ⟨_, rfl, ?_⟩
      have n0_ := Aside0.mk (Kd.R_lower ho0 (below_size (by repeat (first | (with_reducible first | exact HB.out | apply below_alloc | apply pw_below_drewN | apply below_drew1 | refine below_set ?_ GE197.out | refine below_set ?_ GE198.out) | exact HB.out))))
      have n1_ := Aside0.mk (Kd.R_lower ho1 (below_size (by repeat (first | (with_reducible first | exact HB.out | apply below_alloc | apply pw_below_drewN | apply below_drew1 | refine below_set ?_ GE197.out | refine below_set ?_ GE198.out) | exact HB.out))))
      have n2_ := Aside0.mk (Kd.R_lower ho2 (below_size (by repeat (first | (with_reducible first | exact HB.out | apply below_alloc | apply pw_below_drewN | apply below_drew1 | refine below_set ?_ GE197.out | refine below_set ?_ GE198.out) | exact HB.out))))
      have n3_ := Aside0.mk (Kd.R_lower ho3 (below_size (by repeat (first | (with_reducible first | exact HB.out | apply below_alloc | apply pw_below_drewN | apply below_drew1 | refine below_set ?_ GE197.out | refine below_set ?_ GE198.out) | exact HB.out))))
      have n4_ := Aside0.mk (Kd.S_lower ho4 (below_size (by repeat (first | (with_reducible first | exact HB.out | apply below_alloc | apply pw_below_drewN | apply below_drew1 | refine below_set ?_ GE197.out | refine below_set ?_ GE198.out) | exact HB.out))))
      have n5_ := Aside0.mk (blk_below (g := gb197) (o := .cells #[.int .i64 a0_0, .int .i64 a0_1, .int .i64 a0_2, .slice A0_3 l0_3.length c0_3, .slice A0_4 l0_4.length c0_4, .int .i64 a0_5, .int .i64 a0_6, .slice A0_7 l0_7.length c0_7, .slice A0_8 l0_8.length c0_8, .slice A0_9 l0_9.length c0_9] 50 (0, 0)) (blk_mv BK197) hb)
      have n6_ := Aside0.mk (blk_below (g := gb198) (o := .cells #[.int .i64 a1_0, .int .i64 a1_1, .int .i64 a1_2, .slice A1_3 l1_3.length c1_3, .slice A1_4 l1_4.length c1_4, .int .i64 a1_5, .int .i64 a1_6, .slice A1_7 l1_7.length c1_7, .slice A1_8 l1_8.length c1_8, .slice A1_9 l1_9.length c1_9] 50 (0, 0)) (blk_mv BK198) hb)
      have n7_ := Aside0.mk (below_step (by repeat (first | (with_reducible first | exact HB.out | apply below_alloc | apply pw_below_drewN | apply below_drew1 | refine below_set ?_ GE197.out | refine below_set ?_ GE198.out) | exact HB.out)) hb)
      clear BK197
      clear BK198
      clear HB
      have HO206 := n0_
      have HO209 := n1_
      have HO214 := n2_
      have HO217 := n3_
      have HO220 := n4_
      have BK197 := n5_
      have BK198 := n6_
      have HB := n7_
      clear n0_ n1_ n2_ n3_ n4_ n5_ n6_ n7_
      (try clear hb)
      (try clear hb2)
      (try clear hk)
      (try clear hi)
      (try clear ho0)
      (try clear ho1)
      (try clear ho2)
      (try clear ho3)
      (try clear ho4)
      refine hK.out _ _ ⟨(blk_cell BK197.out 0).trans rfl, (blk_cell BK197.out 1).trans rfl, (blk_cell BK197.out 2).trans rfl, (blk_cell BK197.out 3).trans rfl, (blk_cell BK197.out 4).trans rfl, (blk_cell BK197.out 5).trans rfl, (blk_cell BK197.out 6).trans rfl, (blk_cell BK197.out 7).trans rfl, (blk_cell BK197.out 8).trans rfl, (blk_cell BK197.out 9).trans rfl, (blk_cell BK198.out 0).trans rfl, (blk_cell BK198.out 1).trans rfl, (blk_cell BK198.out 2).trans rfl, (blk_cell BK198.out 3).trans rfl, (blk_cell BK198.out 4).trans rfl, (blk_cell BK198.out 5).trans rfl, (blk_cell BK198.out 6).trans rfl, (blk_cell BK198.out 7).trans rfl, (blk_cell BK198.out 8).trans rfl, (blk_cell BK198.out 9).trans rfl⟩ (fun hHeld => ?_)
      clear hK K
      refine norm_ (a' := ?_) ?_ ?_
      rotate_left
      ·show Act.put _ (some 21) _ = _
       simp only [Act.put, List.setIfInBounds_toArray, List.set_cons_zero, List.set_cons_succ, i64_w, i32_w]
       rfl
      refine one_ (i := 3) (N := some 23) #[true, true, true, true, false, false] rfl rfl (by kernel_rfl) (by decide) (fun K hK => ?_)
      refine goes_ Try.func28 (by kernel_rfl) rfl #[.agg #[.int .i64 a1_0, .int .i64 a1_1, .int .i64 a1_2, .slice A1_3 l1_3.length c1_3, .slice A1_4 l1_4.length c1_4, .int .i64 a1_5, .int .i64 a1_6, .slice A1_7 l1_7.length c1_7, .slice A1_8 l1_8.length c1_8, .slice A1_9 l1_9.length c1_9]] (by rfl) rfl rfl (by (try simp only [List.map_toArray, List.map_cons, List.map_nil]); first | done | rfl | (simp only [List.length_drop, List.length_take]; rfl)) ?_
      with_reducible refine (laws_toHead.calls k a1_0 a1_1 a1_2 _ _ l1_3 _ _ l1_4 a1_5 a1_6 _ _ l1_7 _ _ l1_8 _ _ l1_9 t221 t222 t223 t224 t227 t230 t231 t232 t235 t238 _ ?side1 ?side2 ?side3 ?side4 ?side5 ?side6 ?side7 ?side8 ?side9 ?side10 A18.out).mono ?_
      (case side1 => repeat (first | exact (Kd.C_below HR1_3.out HB.out) | (with_reducible refine Kd.C_alloc ?_ _) | (with_reducible refine Kd.C_drewN ?_ _) | (with_reducible refine Kd.C_drew ?_)))
      (case side2 => exact HC1_3.out)
      (case side3 => repeat (first | exact (Kd.C_below HR1_4.out HB.out) | (with_reducible refine Kd.C_alloc ?_ _) | (with_reducible refine Kd.C_drewN ?_ _) | (with_reducible refine Kd.C_drew ?_)))
      (case side4 => exact HC1_4.out)
      (case side5 => repeat (first | exact (Kd.C_below HR1_7.out HB.out) | (with_reducible refine Kd.C_alloc ?_ _) | (with_reducible refine Kd.C_drewN ?_ _) | (with_reducible refine Kd.C_drew ?_)))
      (case side6 => exact HC1_7.out)
      (case side7 => repeat (first | exact (Kd.C_below HR1_8.out HB.out) | (with_reducible refine Kd.C_alloc ?_ _) | (with_reducible refine Kd.C_drewN ?_ _) | (with_reducible refine Kd.C_drew ?_)))
      (case side8 => exact HC1_8.out)
      (case side9 => repeat (first | exact (Kd.C_below HR1_9.out HB.out) | (with_reducible refine Kd.C_alloc ?_ _) | (with_reducible refine Kd.C_drewN ?_ _) | (with_reducible refine Kd.C_drew ?_)))
      (case side10 => exact HC1_9.out)
      rintro e w32 ⟨v225, v228, v233, v236, v239, rfl, ho0, ho1, ho2, ho3, ho4, hb⟩
      refine ⟨_, rfl, ?_⟩
      have n0_ := Aside0.mk (Kd.R_mono (Kd.R_told (Kd.R_told (Kd.R_told (Kd.R_told (Kd.R_old (Kd.R_mv HO206) hb) (Kd.R_base ho0)) (Kd.R_base ho1)) (Kd.R_base ho2)) (Kd.R_base ho3)) (fun _ h_ => h_.1))
      have n1_ := Aside0.mk (Kd.R_mono (Kd.R_told (Kd.R_told (Kd.R_told (Kd.R_told (Kd.R_old (Kd.R_mv HO209) hb) (Kd.R_base ho0)) (Kd.R_base ho1)) (Kd.R_base ho2)) (Kd.R_base ho3)) (fun _ h_ => h_.1))
      have n2_ := Aside0.mk (Kd.R_mono (Kd.R_told (Kd.R_told (Kd.R_told (Kd.R_told (Kd.R_old (Kd.R_mv HO214) hb) (Kd.R_base ho0)) (Kd.R_base ho1)) (Kd.R_base ho2)) (Kd.R_base ho3)) (fun _ h_ => h_.1))
      have n3_ := Aside0.mk (Kd.R_mono (Kd.R_told (Kd.R_told (Kd.R_told (Kd.R_told (Kd.R_old (Kd.R_mv HO217) hb) (Kd.R_base ho0)) (Kd.R_base ho1)) (Kd.R_base ho2)) (Kd.R_base ho3)) (fun _ h_ => h_.1))
      have n4_ := Aside0.mk (Kd.S_mono (Kd.S_told (Kd.S_told (Kd.S_told (Kd.S_told (Kd.S_told (Kd.S_old (Kd.S_mv HO220) hb) (Kd.R_base ho0)) (Kd.R_base ho1)) (Kd.R_base ho2)) (Kd.R_base ho3)) (Kd.S_base ho4)) (fun _ h_ => h_.1))
      have n5_ := Aside0.mk (Kd.R_lower (Kd.R_new' (Kd.R_new' (Kd.R_new' (Kd.R_new' ho0 (Kd.R_lt (Kd.R_mv HO206))) (Kd.R_lt (Kd.R_mv HO209))) (Kd.R_lt (Kd.R_mv HO214))) (Kd.R_lt (Kd.R_mv HO217))) (below_size (by repeat (first | (with_reducible first | exact HB.out | apply below_alloc | apply pw_below_drewN | apply below_drew1 | refine below_set ?_ GE197.out | refine below_set ?_ GE198.out) | exact HB.out))))
      have n6_ := Aside0.mk (Kd.R_lower (Kd.R_new' (Kd.R_new' (Kd.R_new' (Kd.R_new' ho1 (Kd.R_lt (Kd.R_mv HO206))) (Kd.R_lt (Kd.R_mv HO209))) (Kd.R_lt (Kd.R_mv HO214))) (Kd.R_lt (Kd.R_mv HO217))) (below_size (by repeat (first | (with_reducible first | exact HB.out | apply below_alloc | apply pw_below_drewN | apply below_drew1 | refine below_set ?_ GE197.out | refine below_set ?_ GE198.out) | exact HB.out))))
      have n7_ := Aside0.mk (Kd.R_lower (Kd.R_new' (Kd.R_new' (Kd.R_new' (Kd.R_new' ho2 (Kd.R_lt (Kd.R_mv HO206))) (Kd.R_lt (Kd.R_mv HO209))) (Kd.R_lt (Kd.R_mv HO214))) (Kd.R_lt (Kd.R_mv HO217))) (below_size (by repeat (first | (with_reducible first | exact HB.out | apply below_alloc | apply pw_below_drewN | apply below_drew1 | refine below_set ?_ GE197.out | refine below_set ?_ GE198.out) | exact HB.out))))
      have n8_ := Aside0.mk (Kd.R_lower (Kd.R_new' (Kd.R_new' (Kd.R_new' (Kd.R_new' ho3 (Kd.R_lt (Kd.R_mv HO206))) (Kd.R_lt (Kd.R_mv HO209))) (Kd.R_lt (Kd.R_mv HO214))) (Kd.R_lt (Kd.R_mv HO217))) (below_size (by repeat (first | (with_reducible first | exact HB.out | apply below_alloc | apply pw_below_drewN | apply below_drew1 | refine below_set ?_ GE197.out | refine below_set ?_ GE198.out) | exact HB.out))))
      have n9_ := Aside0.mk (Kd.S_lower (Kd.S_new' (Kd.S_new' (Kd.S_new' (Kd.S_new' (Kd.S_new' ho4 (Kd.R_lt (Kd.R_mv HO206))) (Kd.R_lt (Kd.R_mv HO209))) (Kd.R_lt (Kd.R_mv HO214))) (Kd.R_lt (Kd.R_mv HO217))) (Kd.S_lt (Kd.S_mv HO220))) (below_size (by repeat (first | (with_reducible first | exact HB.out | apply below_alloc | apply pw_below_drewN | apply below_drew1 | refine below_set ?_ GE197.out | refine below_set ?_ GE198.out) | exact HB.out))))
      have n10_ := Aside0.mk (blk_below (g := gb197) (o := .cells #[.int .i64 a0_0, .int .i64 a0_1, .int .i64 a0_2, .slice A0_3 l0_3.length c0_3, .slice A0_4 l0_4.length c0_4, .int .i64 a0_5, .int .i64 a0_6, .slice A0_7 l0_7.length c0_7, .slice A0_8 l0_8.length c0_8, .slice A0_9 l0_9.length c0_9] 50 (0, 0)) (blk_mv BK197) hb)
      have n11_ := Aside0.mk (blk_below (g := gb198) (o := .cells #[.int .i64 a1_0, .int .i64 a1_1, .int .i64 a1_2, .slice A1_3 l1_3.length c1_3, .slice A1_4 l1_4.length c1_4, .int .i64 a1_5, .int .i64 a1_6, .slice A1_7 l1_7.length c1_7, .slice A1_8 l1_8.length c1_8, .slice A1_9 l1_9.length c1_9] 50 (0, 0)) (blk_mv BK198) hb)
      have n12_ := Aside0.mk (below_step (by repeat (first | (with_reducible first | exact HB.out | apply below_alloc | apply pw_below_drewN | apply below_drew1 | refine below_set ?_ GE197.out | refine below_set ?_ GE198.out) | exact HB.out)) hb)
      clear HO206
      clear HO209
      clear HO214
      clear HO217
      clear HO220
      clear BK197
      clear BK198
      clear HB
      have HO206 := n0_
      have HO209 := n1_
      have HO214 := n2_
      have HO217 := n3_
      have HO220 := n4_
      have HO226 := n5_
      have HO229 := n6_
      have HO234 := n7_
      have HO237 := n8_
      have HO240 := n9_
      have BK197 := n10_
      have BK198 := n11_
      have HB := n12_
      clear n0_ n1_ n2_ n3_ n4_ n5_ n6_ n7_ n8_ n9_ n10_ n11_ n12_
      (try clear hb)
      (try clear hb2)
      (try clear hk)
      (try clear hi)
      (try clear ho0)
      (try clear ho1)
      (try clear ho2)
      (try clear ho3)
      (try clear ho4)
      obtain ⟨Ao33, co33, eo33⟩ := Kd.R_slice HO206.out
      (first | subst eo33 | (injection eo33 with f1_ f2_ f3_; have f4_ := f1_.symm; have f5_ := f3_.symm; clear f1_ f2_ f3_; subst f4_; subst f5_))
      obtain ⟨Ao34, co34, eo34⟩ := Kd.R_slice HO209.out
      (first | subst eo34 | (injection eo34 with f1_ f2_ f3_; have f4_ := f1_.symm; have f5_ := f3_.symm; clear f1_ f2_ f3_; subst f4_; subst f5_))
      obtain ⟨Ao35, co35, eo35⟩ := Kd.R_slice HO214.out
      (first | subst eo35 | (injection eo35 with f1_ f2_ f3_; have f4_ := f1_.symm; have f5_ := f3_.symm; clear f1_ f2_ f3_; subst f4_; subst f5_))
      obtain ⟨Ao36, co36, eo36⟩ := Kd.R_slice HO217.out
      (first | subst eo36 | (injection eo36 with f1_ f2_ f3_; have f4_ := f1_.symm; have f5_ := f3_.symm; clear f1_ f2_ f3_; subst f4_; subst f5_))
      obtain ⟨Ao37, co37, eo37⟩ := Kd.S_slice HO220.out
      (first | subst eo37 | (injection eo37 with f1_ f2_ f3_; have f4_ := f1_.symm; have f5_ := f3_.symm; clear f1_ f2_ f3_; subst f4_; subst f5_))
      obtain ⟨Ao38, co38, eo38⟩ := Kd.R_slice HO226.out
      (first | subst eo38 | (injection eo38 with f1_ f2_ f3_; have f4_ := f1_.symm; have f5_ := f3_.symm; clear f1_ f2_ f3_; subst f4_; subst f5_))
      obtain ⟨Ao39, co39, eo39⟩ := Kd.R_slice HO229.out
      (first | subst eo39 | (injection eo39 with f1_ f2_ f3_; have f4_ := f1_.symm; have f5_ := f3_.symm; clear f1_ f2_ f3_; subst f4_; subst f5_))
      obtain ⟨Ao40, co40, eo40⟩ := Kd.R_slice HO234.out
      (first | subst eo40 | (injection eo40 with f1_ f2_ f3_; have f4_ := f1_.symm; have f5_ := f3_.symm; clear f1_ f2_ f3_; subst f4_; subst f5_))
      obtain ⟨Ao41, co41, eo41⟩ := Kd.R_slice HO237.out
      (first | subst eo41 | (injection eo41 with f1_ f2_ f3_; have f4_ := f1_.symm; have f5_ := f3_.symm; clear f1_ f2_ f3_; subst f4_; subst f5_))
      obtain ⟨Ao42, co42, eo42⟩ := Kd.S_slice HO240.out
      (first | subst eo42 | (injection eo42 with f1_ f2_ f3_; have f4_ := f1_.symm; have f5_ := f3_.symm; clear f1_ f2_ f3_; subst f4_; subst f5_))
      refine hK.out _ _ ⟨(blk_cell BK197.out 0).trans rfl, (blk_cell BK197.out 1).trans rfl, (blk_cell BK197.out 2).trans rfl, (blk_cell BK197.out 3).trans rfl, (blk_cell BK197.out 4).trans rfl, (blk_cell BK197.out 5).trans rfl, (blk_cell BK197.out 6).trans rfl, (blk_cell BK197.out 7).trans rfl, (blk_cell BK197.out 8).trans rfl, (blk_cell BK197.out 9).trans rfl, (blk_cell BK198.out 0).trans rfl, (blk_cell BK198.out 1).trans rfl, (blk_cell BK198.out 2).trans rfl, (blk_cell BK198.out 3).trans rfl, (blk_cell BK198.out 4).trans rfl, (blk_cell BK198.out 5).trans rfl, (blk_cell BK198.out 6).trans rfl, (blk_cell BK198.out 7).trans rfl, (blk_cell BK198.out 8).trans rfl, (blk_cell BK198.out 9).trans rfl⟩ (fun hHeld => ?_)
      clear hK K
      refine norm_ (a' := ?_) ?_ ?_
      rotate_left
      ·show Act.put _ (some 23) _ = _
       simp only [Act.put, List.setIfInBounds_toArray, List.set_cons_zero, List.set_cons_succ, i64_w, i32_w]
       rfl
      refine one_ (i := 4) (N := some 24) #[true, true, true, true, true, false] rfl rfl (by kernel_rfl) (by decide) (fun K hK => ?_)
      refine goes_ Try.func27 (by kernel_rfl) rfl #[.agg #[.int .i64 t201, .int .i64 t202, .int .i64 t203, .slice Ao33 t204.length co33, .slice Ao34 t207.length co34, .int .i64 t210, .int .i64 t211, .slice Ao35 t212.length co35, .slice Ao36 t215.length co36, .slice Ao37 t218.length co37], .agg #[.int .i64 t221, .int .i64 t222, .int .i64 t223, .slice Ao38 t224.length co38, .slice Ao39 t227.length co39, .int .i64 t230, .int .i64 t231, .slice Ao40 t232.length co40, .slice Ao41 t235.length co41, .slice Ao42 t238.length co42]] (by rfl) rfl rfl (by (try simp only [List.map_toArray, List.map_cons, List.map_nil]); first | done | rfl | (simp only [List.length_drop, List.length_take]; rfl)) ?_
      with_reducible refine (spec_HeadSame.calls k t201 t202 t203 _ _ t204 _ _ t207 t210 t211 _ _ t212 _ _ t215 _ _ t218 t221 t222 t223 _ _ t224 _ _ t227 t230 t231 _ _ t232 _ _ t235 _ _ t238 t241 _ ?side1 ?side2 ?side3 ?side4 ?side5 ?side6 ?side7 ?side8 ?side9 ?side10 ?side11 ?side12 ?side13 ?side14 ?side15 ?side16 ?side17 ?side18 ?side19 ?side20 A19.out).mono ?_
      (case side1 => repeat (first | exact (Kd.R_reads' HO206.out).2.2 | (with_reducible refine Kd.C_alloc ?_ _) | (with_reducible refine Kd.C_drewN ?_ _) | (with_reducible refine Kd.C_drew ?_)))
      (case side2 => exact (Kd.R_reads' HO206.out).2.1)
      (case side3 => repeat (first | exact (Kd.R_reads' HO209.out).2.2 | (with_reducible refine Kd.C_alloc ?_ _) | (with_reducible refine Kd.C_drewN ?_ _) | (with_reducible refine Kd.C_drew ?_)))
      (case side4 => exact (Kd.R_reads' HO209.out).2.1)
      (case side5 => repeat (first | exact (Kd.R_reads' HO214.out).2.2 | (with_reducible refine Kd.C_alloc ?_ _) | (with_reducible refine Kd.C_drewN ?_ _) | (with_reducible refine Kd.C_drew ?_)))
      (case side6 => exact (Kd.R_reads' HO214.out).2.1)
      (case side7 => repeat (first | exact (Kd.R_reads' HO217.out).2.2 | (with_reducible refine Kd.C_alloc ?_ _) | (with_reducible refine Kd.C_drewN ?_ _) | (with_reducible refine Kd.C_drew ?_)))
      (case side8 => exact (Kd.R_reads' HO217.out).2.1)
      (case side9 => repeat (first | exact (Kd.S_reads' HO220.out).2.2 | (with_reducible refine Kd.C_alloc ?_ _) | (with_reducible refine Kd.C_drewN ?_ _) | (with_reducible refine Kd.C_drew ?_)))
      (case side10 => exact (Kd.S_reads' HO220.out).2.1)
      (case side11 => repeat (first | exact (Kd.R_reads' HO226.out).2.2 | (with_reducible refine Kd.C_alloc ?_ _) | (with_reducible refine Kd.C_drewN ?_ _) | (with_reducible refine Kd.C_drew ?_)))
      (case side12 => exact (Kd.R_reads' HO226.out).2.1)
      (case side13 => repeat (first | exact (Kd.R_reads' HO229.out).2.2 | (with_reducible refine Kd.C_alloc ?_ _) | (with_reducible refine Kd.C_drewN ?_ _) | (with_reducible refine Kd.C_drew ?_)))
      (case side14 => exact (Kd.R_reads' HO229.out).2.1)
      (case side15 => repeat (first | exact (Kd.R_reads' HO234.out).2.2 | (with_reducible refine Kd.C_alloc ?_ _) | (with_reducible refine Kd.C_drewN ?_ _) | (with_reducible refine Kd.C_drew ?_)))
      (case side16 => exact (Kd.R_reads' HO234.out).2.1)
      (case side17 => repeat (first | exact (Kd.R_reads' HO237.out).2.2 | (with_reducible refine Kd.C_alloc ?_ _) | (with_reducible refine Kd.C_drewN ?_ _) | (with_reducible refine Kd.C_drew ?_)))
      (case side18 => exact (Kd.R_reads' HO237.out).2.1)
      (case side19 => repeat (first | exact (Kd.S_reads' HO240.out).2.2 | (with_reducible refine Kd.C_alloc ?_ _) | (with_reducible refine Kd.C_drewN ?_ _) | (with_reducible refine Kd.C_drew ?_)))
      (case side20 => exact (Kd.S_reads' HO240.out).2.1)
      rintro e w43 ⟨rfl, hb⟩
      refine ⟨_, rfl, ?_⟩
      have n0_ := Aside0.mk (Kd.R_below (Kd.R_mv HO206) hb)
      have n1_ := Aside0.mk (Kd.R_below (Kd.R_mv HO209) hb)
      have n2_ := Aside0.mk (Kd.R_below (Kd.R_mv HO214) hb)
      have n3_ := Aside0.mk (Kd.R_below (Kd.R_mv HO217) hb)
      have n4_ := Aside0.mk (Kd.S_below (Kd.S_mv HO220) hb)
      have n5_ := Aside0.mk (Kd.R_below (Kd.R_mv HO226) hb)
      have n6_ := Aside0.mk (Kd.R_below (Kd.R_mv HO229) hb)
      have n7_ := Aside0.mk (Kd.R_below (Kd.R_mv HO234) hb)
      have n8_ := Aside0.mk (Kd.R_below (Kd.R_mv HO237) hb)
      have n9_ := Aside0.mk (Kd.S_below (Kd.S_mv HO240) hb)
      have n10_ := Aside0.mk (blk_below (g := gb197) (o := .cells #[.int .i64 a0_0, .int .i64 a0_1, .int .i64 a0_2, .slice A0_3 l0_3.length c0_3, .slice A0_4 l0_4.length c0_4, .int .i64 a0_5, .int .i64 a0_6, .slice A0_7 l0_7.length c0_7, .slice A0_8 l0_8.length c0_8, .slice A0_9 l0_9.length c0_9] 50 (0, 0)) (blk_mv BK197) hb)
      have n11_ := Aside0.mk (blk_below (g := gb198) (o := .cells #[.int .i64 a1_0, .int .i64 a1_1, .int .i64 a1_2, .slice A1_3 l1_3.length c1_3, .slice A1_4 l1_4.length c1_4, .int .i64 a1_5, .int .i64 a1_6, .slice A1_7 l1_7.length c1_7, .slice A1_8 l1_8.length c1_8, .slice A1_9 l1_9.length c1_9] 50 (0, 0)) (blk_mv BK198) hb)
      have n12_ := Aside0.mk (below_step (by repeat (first | (with_reducible first | exact HB.out | apply below_alloc | apply pw_below_drewN | apply below_drew1 | refine below_set ?_ GE197.out | refine below_set ?_ GE198.out) | exact HB.out)) hb)
      clear HO206
      clear HO209
      clear HO214
      clear HO217
      clear HO220
      clear HO226
      clear HO229
      clear HO234
      clear HO237
      clear HO240
      clear BK197
      clear BK198
      clear HB
      have HO206 := n0_
      have HO209 := n1_
      have HO214 := n2_
      have HO217 := n3_
      have HO220 := n4_
      have HO226 := n5_
      have HO229 := n6_
      have HO234 := n7_
      have HO237 := n8_
      have HO240 := n9_
      have BK197 := n10_
      have BK198 := n11_
      have HB := n12_
      clear n0_ n1_ n2_ n3_ n4_ n5_ n6_ n7_ n8_ n9_ n10_ n11_ n12_
      (try clear hb)
      (try clear hb2)
      (try clear hk)
      (try clear hi)
      refine hK.out _ _ ⟨(blk_cell BK197.out 0).trans rfl, (blk_cell BK197.out 1).trans rfl, (blk_cell BK197.out 2).trans rfl, (blk_cell BK197.out 3).trans rfl, (blk_cell BK197.out 4).trans rfl, (blk_cell BK197.out 5).trans rfl, (blk_cell BK197.out 6).trans rfl, (blk_cell BK197.out 7).trans rfl, (blk_cell BK197.out 8).trans rfl, (blk_cell BK197.out 9).trans rfl, (blk_cell BK198.out 0).trans rfl, (blk_cell BK198.out 1).trans rfl, (blk_cell BK198.out 2).trans rfl, (blk_cell BK198.out 3).trans rfl, (blk_cell BK198.out 4).trans rfl, (blk_cell BK198.out 5).trans rfl, (blk_cell BK198.out 6).trans rfl, (blk_cell BK198.out 7).trans rfl, (blk_cell BK198.out 8).trans rfl, (blk_cell BK198.out 9).trans rfl⟩ (fun hHeld => ?_)
      clear hK K
      refine norm_ (a' := ?_) ?_ ?_
      rotate_left
      ·show Act.put _ (some 24) _ = _
       simp only [Act.put, List.setIfInBounds_toArray, List.set_cons_zero, List.set_cons_succ, i64_w, i32_w]
       rfl
      refine pure_ (i := 5) (N := some 6) (v := ?_) (a' := ?_) #[true, true, true, true, true, true] rfl rfl (by kernel_rfl) (fun _ _ _ h => h) (Or.inl ⟨by rfl, ?_⟩) ?_ ?_
      rotate_left
      ·intro w'
       go_simp
       with_reducible rfl
      rotate_left
      ·simp only [Act.put, List.setIfInBounds_toArray, List.set_cons_zero, List.set_cons_succ, i64_w, i32_w]
       rfl
      refine done_ (by kernel_rfl) ?_
      have hnb44 := NB197_198.out
      have hnc44 := NB198_197.out
      have hcz45_0 : w43.cell? ⟨gb197, 0, none⟩ = some (.int .i64 a0_0) := (blk_cell BK197.out 0).trans rfl
      have hcz45_1 : w43.cell? ⟨gb197, 1, none⟩ = some (.int .i64 a0_1) := (blk_cell BK197.out 1).trans rfl
      have hcz45_2 : w43.cell? ⟨gb197, 2, none⟩ = some (.int .i64 a0_2) := (blk_cell BK197.out 2).trans rfl
      have hcz45_3 : w43.cell? ⟨gb197, 3, none⟩ = some (.slice A0_3 l0_3.length c0_3) := (blk_cell BK197.out 3).trans rfl
      have hcz45_4 : w43.cell? ⟨gb197, 4, none⟩ = some (.slice A0_4 l0_4.length c0_4) := (blk_cell BK197.out 4).trans rfl
      have hcz45_5 : w43.cell? ⟨gb197, 5, none⟩ = some (.int .i64 a0_5) := (blk_cell BK197.out 5).trans rfl
      have hcz45_6 : w43.cell? ⟨gb197, 6, none⟩ = some (.int .i64 a0_6) := (blk_cell BK197.out 6).trans rfl
      have hcz45_7 : w43.cell? ⟨gb197, 7, none⟩ = some (.slice A0_7 l0_7.length c0_7) := (blk_cell BK197.out 7).trans rfl
      have hcz45_8 : w43.cell? ⟨gb197, 8, none⟩ = some (.slice A0_8 l0_8.length c0_8) := (blk_cell BK197.out 8).trans rfl
      have hcz45_9 : w43.cell? ⟨gb197, 9, none⟩ = some (.slice A0_9 l0_9.length c0_9) := (blk_cell BK197.out 9).trans rfl
      have hfz45_0 := blk_frozen BK197.out 0
      have hfz45_1 := blk_frozen BK197.out 1
      have hfz45_2 := blk_frozen BK197.out 2
      have hfz45_3 := blk_frozen BK197.out 3
      have hfz45_4 := blk_frozen BK197.out 4
      have hfz45_5 := blk_frozen BK197.out 5
      have hfz45_6 := blk_frozen BK197.out 6
      have hfz45_7 := blk_frozen BK197.out 7
      have hfz45_8 := blk_frozen BK197.out 8
      have hfz45_9 := blk_frozen BK197.out 9
      try go_wp2_with (first | ((with_reducible refine gate_callee (f := 28) rfl ?_); refine goesL_ (some 26) rfl rfl Try.func28 (by kernel_rfl) rfl #[.agg #[.int .i64 a0_0, .int .i64 a0_1, .int .i64 a0_2, .slice A0_3 l0_3.length c0_3, .slice A0_4 l0_4.length c0_4, .int .i64 a0_5, .int .i64 a0_6, .slice A0_7 l0_7.length c0_7, .slice A0_8 l0_8.length c0_8, .slice A0_9 l0_9.length c0_9]] rfl (by (try simp only [List.map_toArray, List.map_cons, List.map_nil]); first | done | rfl | (simp only [List.length_drop, List.length_take]; rfl)) ?_; (with_reducible refine (laws_toHead.calls k a0_0 a0_1 a0_2 _ _ l0_3 _ _ l0_4 a0_5 a0_6 _ _ l0_7 _ _ l0_8 _ _ l0_9 t242 t243 t244 t245 t248 t251 t252 t253 t256 t259 _ ?side1 ?side2 ?side3 ?side4 ?side5 ?side6 ?side7 ?side8 ?side9 ?side10 A20.out).mono ?_); (case side1 => repeat (first | exact (Kd.C_below HR0_3.out HB.out) | (with_reducible refine Kd.C_alloc ?_ _) | (with_reducible refine Kd.C_drewN ?_ _) | (with_reducible refine Kd.C_drew ?_))); (case side2 => exact HC0_3.out); (case side3 => repeat (first | exact (Kd.C_below HR0_4.out HB.out) | (with_reducible refine Kd.C_alloc ?_ _) | (with_reducible refine Kd.C_drewN ?_ _) | (with_reducible refine Kd.C_drew ?_))); (case side4 => exact HC0_4.out); (case side5 => repeat (first | exact (Kd.C_below HR0_7.out HB.out) | (with_reducible refine Kd.C_alloc ?_ _) | (with_reducible refine Kd.C_drewN ?_ _) | (with_reducible refine Kd.C_drew ?_))); (case side6 => exact HC0_7.out); (case side7 => repeat (first | exact (Kd.C_below HR0_8.out HB.out) | (with_reducible refine Kd.C_alloc ?_ _) | (with_reducible refine Kd.C_drewN ?_ _) | (with_reducible refine Kd.C_drew ?_))); (case side8 => exact HC0_8.out); (case side9 => repeat (first | exact (Kd.C_below HR0_9.out HB.out) | (with_reducible refine Kd.C_alloc ?_ _) | (with_reducible refine Kd.C_drewN ?_ _) | (with_reducible refine Kd.C_drew ?_))); (case side10 => exact HC0_9.out); rintro e w46 ⟨v246, v249, v254, v257, v260, rfl, ho0, ho1, ho2, ho3, ho4, hb⟩; refine ⟨_, rfl, ?_⟩; have n0_ := Aside0.mk (Kd.R_mono (Kd.R_told (Kd.R_told (Kd.R_told (Kd.R_told (Kd.R_old (Kd.R_mv HO206) hb) (Kd.R_base ho0)) (Kd.R_base ho1)) (Kd.R_base ho2)) (Kd.R_base ho3)) (fun _ h_ => h_.1)); have n1_ := Aside0.mk (Kd.R_mono (Kd.R_told (Kd.R_told (Kd.R_told (Kd.R_told (Kd.R_old (Kd.R_mv HO209) hb) (Kd.R_base ho0)) (Kd.R_base ho1)) (Kd.R_base ho2)) (Kd.R_base ho3)) (fun _ h_ => h_.1)); have n2_ := Aside0.mk (Kd.R_mono (Kd.R_told (Kd.R_told (Kd.R_told (Kd.R_told (Kd.R_old (Kd.R_mv HO214) hb) (Kd.R_base ho0)) (Kd.R_base ho1)) (Kd.R_base ho2)) (Kd.R_base ho3)) (fun _ h_ => h_.1)); have n3_ := Aside0.mk (Kd.R_mono (Kd.R_told (Kd.R_told (Kd.R_told (Kd.R_told (Kd.R_old (Kd.R_mv HO217) hb) (Kd.R_base ho0)) (Kd.R_base ho1)) (Kd.R_base ho2)) (Kd.R_base ho3)) (fun _ h_ => h_.1)); have n4_ := Aside0.mk (Kd.S_mono (Kd.S_told (Kd.S_told (Kd.S_told (Kd.S_told (Kd.S_told (Kd.S_old (Kd.S_mv HO220) hb) (Kd.R_base ho0)) (Kd.R_base ho1)) (Kd.R_base ho2)) (Kd.R_base ho3)) (Kd.S_base ho4)) (fun _ h_ => h_.1)); have n5_ := Aside0.mk (Kd.R_mono (Kd.R_told (Kd.R_told (Kd.R_told (Kd.R_told (Kd.R_old (Kd.R_mv HO226) hb) (Kd.R_base ho0)) (Kd.R_base ho1)) (Kd.R_base ho2)) (Kd.R_base ho3)) (fun _ h_ => h_.1)); have n6_ := Aside0.mk (Kd.R_mono (Kd.R_told (Kd.R_told (Kd.R_told (Kd.R_told (Kd.R_old (Kd.R_mv HO229) hb) (Kd.R_base ho0)) (Kd.R_base ho1)) (Kd.R_base ho2)) (Kd.R_base ho3)) (fun _ h_ => h_.1)); have n7_ := Aside0.mk (Kd.R_mono (Kd.R_told (Kd.R_told (Kd.R_told (Kd.R_told (Kd.R_old (Kd.R_mv HO234) hb) (Kd.R_base ho0)) (Kd.R_base ho1)) (Kd.R_base ho2)) (Kd.R_base ho3)) (fun _ h_ => h_.1)); have n8_ := Aside0.mk (Kd.R_mono (Kd.R_told (Kd.R_told (Kd.R_told (Kd.R_told (Kd.R_old (Kd.R_mv HO237) hb) (Kd.R_base ho0)) (Kd.R_base ho1)) (Kd.R_base ho2)) (Kd.R_base ho3)) (fun _ h_ => h_.1)); have n9_ := Aside0.mk (Kd.S_mono (Kd.S_told (Kd.S_told (Kd.S_told (Kd.S_told (Kd.S_told (Kd.S_old (Kd.S_mv HO240) hb) (Kd.R_base ho0)) (Kd.R_base ho1)) (Kd.R_base ho2)) (Kd.R_base ho3)) (Kd.S_base ho4)) (fun _ h_ => h_.1)); have n10_ := Aside0.mk (Kd.R_lower (Kd.R_new' (Kd.R_new' (Kd.R_new' (Kd.R_new' (Kd.R_new' (Kd.R_new' (Kd.R_new' (Kd.R_new' ho0 (Kd.R_lt (Kd.R_mv HO206))) (Kd.R_lt (Kd.R_mv HO209))) (Kd.R_lt (Kd.R_mv HO214))) (Kd.R_lt (Kd.R_mv HO217))) (Kd.R_lt (Kd.R_mv HO226))) (Kd.R_lt (Kd.R_mv HO229))) (Kd.R_lt (Kd.R_mv HO234))) (Kd.R_lt (Kd.R_mv HO237))) (below_size (by repeat (first | (with_reducible first | exact HB.out | apply below_alloc | apply pw_below_drewN | apply below_drew1 | refine below_set ?_ GE197.out | refine below_set ?_ GE198.out) | exact HB.out)))); have n11_ := Aside0.mk (Kd.R_lower (Kd.R_new' (Kd.R_new' (Kd.R_new' (Kd.R_new' (Kd.R_new' (Kd.R_new' (Kd.R_new' (Kd.R_new' ho1 (Kd.R_lt (Kd.R_mv HO206))) (Kd.R_lt (Kd.R_mv HO209))) (Kd.R_lt (Kd.R_mv HO214))) (Kd.R_lt (Kd.R_mv HO217))) (Kd.R_lt (Kd.R_mv HO226))) (Kd.R_lt (Kd.R_mv HO229))) (Kd.R_lt (Kd.R_mv HO234))) (Kd.R_lt (Kd.R_mv HO237))) (below_size (by repeat (first | (with_reducible first | exact HB.out | apply below_alloc | apply pw_below_drewN | apply below_drew1 | refine below_set ?_ GE197.out | refine below_set ?_ GE198.out) | exact HB.out)))); have n12_ := Aside0.mk (Kd.R_lower (Kd.R_new' (Kd.R_new' (Kd.R_new' (Kd.R_new' (Kd.R_new' (Kd.R_new' (Kd.R_new' (Kd.R_new' ho2 (Kd.R_lt (Kd.R_mv HO206))) (Kd.R_lt (Kd.R_mv HO209))) (Kd.R_lt (Kd.R_mv HO214))) (Kd.R_lt (Kd.R_mv HO217))) (Kd.R_lt (Kd.R_mv HO226))) (Kd.R_lt (Kd.R_mv HO229))) (Kd.R_lt (Kd.R_mv HO234))) (Kd.R_lt (Kd.R_mv HO237))) (below_size (by repeat (first | (with_reducible first | exact HB.out | apply below_alloc | apply pw_below_drewN | apply below_drew1 | refine below_set ?_ GE197.out | refine below_set ?_ GE198.out) | exact HB.out)))); have n13_ := Aside0.mk (Kd.R_lower (Kd.R_new' (Kd.R_new' (Kd.R_new' (Kd.R_new' (Kd.R_new' (Kd.R_new' (Kd.R_new' (Kd.R_new' ho3 (Kd.R_lt (Kd.R_mv HO206))) (Kd.R_lt (Kd.R_mv HO209))) (Kd.R_lt (Kd.R_mv HO214))) (Kd.R_lt (Kd.R_mv HO217))) (Kd.R_lt (Kd.R_mv HO226))) (Kd.R_lt (Kd.R_mv HO229))) (Kd.R_lt (Kd.R_mv HO234))) (Kd.R_lt (Kd.R_mv HO237))) (below_size (by repeat (first | (with_reducible first | exact HB.out | apply below_alloc | apply pw_below_drewN | apply below_drew1 | refine below_set ?_ GE197.out | refine below_set ?_ GE198.out) | exact HB.out)))); have n14_ := Aside0.mk (Kd.S_lower (Kd.S_new' (Kd.S_new' (Kd.S_new' (Kd.S_new' (Kd.S_new' (Kd.S_new' (Kd.S_new' (Kd.S_new' (Kd.S_new' (Kd.S_new' ho4 (Kd.R_lt (Kd.R_mv HO206))) (Kd.R_lt (Kd.R_mv HO209))) (Kd.R_lt (Kd.R_mv HO214))) (Kd.R_lt (Kd.R_mv HO217))) (Kd.S_lt (Kd.S_mv HO220))) (Kd.R_lt (Kd.R_mv HO226))) (Kd.R_lt (Kd.R_mv HO229))) (Kd.R_lt (Kd.R_mv HO234))) (Kd.R_lt (Kd.R_mv HO237))) (Kd.S_lt (Kd.S_mv HO240))) (below_size (by repeat (first | (with_reducible first | exact HB.out | apply below_alloc | apply pw_below_drewN | apply below_drew1 | refine below_set ?_ GE197.out | refine below_set ?_ GE198.out) | exact HB.out)))); have n15_ := Aside0.mk (blk_below (g := gb197) (o := .cells #[.int .i64 a0_0, .int .i64 a0_1, .int .i64 a0_2, .slice A0_3 l0_3.length c0_3, .slice A0_4 l0_4.length c0_4, .int .i64 a0_5, .int .i64 a0_6, .slice A0_7 l0_7.length c0_7, .slice A0_8 l0_8.length c0_8, .slice A0_9 l0_9.length c0_9] 50 (0, 0)) (blk_mv BK197) hb); have n16_ := Aside0.mk (blk_below (g := gb198) (o := .cells #[.int .i64 a1_0, .int .i64 a1_1, .int .i64 a1_2, .slice A1_3 l1_3.length c1_3, .slice A1_4 l1_4.length c1_4, .int .i64 a1_5, .int .i64 a1_6, .slice A1_7 l1_7.length c1_7, .slice A1_8 l1_8.length c1_8, .slice A1_9 l1_9.length c1_9] 50 (0, 0)) (blk_mv BK198) hb); have n17_ := Aside0.mk (below_step (by repeat (first | (with_reducible first | exact HB.out | apply below_alloc | apply pw_below_drewN | apply below_drew1 | refine below_set ?_ GE197.out | refine below_set ?_ GE198.out) | exact HB.out)) hb); clear HO206; clear HO209; clear HO214; clear HO217; clear HO220; clear HO226; clear HO229; clear HO234; clear HO237; clear HO240; clear BK197; clear BK198; clear HB; have HO206 := n0_; have HO209 := n1_; have HO214 := n2_; have HO217 := n3_; have HO220 := n4_; have HO226 := n5_; have HO229 := n6_; have HO234 := n7_; have HO237 := n8_; have HO240 := n9_; have HO247 := n10_; have HO250 := n11_; have HO255 := n12_; have HO258 := n13_; have HO261 := n14_; have BK197 := n15_; have BK198 := n16_; have HB := n17_; clear n0_ n1_ n2_ n3_ n4_ n5_ n6_ n7_ n8_ n9_ n10_ n11_ n12_ n13_ n14_ n15_ n16_ n17_; (try clear hb); (try clear hb2); (try clear hk); (try clear hi); (try clear ho0); (try clear ho1); (try clear ho2); (try clear ho3); (try clear ho4)) | ((with_reducible refine gate_dst (N := 7) rfl ?_); refine box_event ?hg (N := 7) ?hd (cs := #[.int .i64 0, .int .i64 0, .int .i64 0, .slice none 0 0, .slice none 0 0, .int .i64 0, .int .i64 0, .slice none 0 0, .slice none 0 0, .slice none 0 0]) (t := 55) ?hr ?_; (case hd => rfl); (case hg => rfl); (case hr => first | (go_simp; done) | (go_simp; rfl)); intro gb262 hg w47 hbox hb; have n0_ := Aside0.mk (Kd.R_below (Kd.R_mv HO206) hb); have n1_ := Aside0.mk (Kd.R_below (Kd.R_mv HO209) hb); have n2_ := Aside0.mk (Kd.R_below (Kd.R_mv HO214) hb); have n3_ := Aside0.mk (Kd.R_below (Kd.R_mv HO217) hb); have n4_ := Aside0.mk (Kd.S_below (Kd.S_mv HO220) hb); have n5_ := Aside0.mk (Kd.R_below (Kd.R_mv HO226) hb); have n6_ := Aside0.mk (Kd.R_below (Kd.R_mv HO229) hb); have n7_ := Aside0.mk (Kd.R_below (Kd.R_mv HO234) hb); have n8_ := Aside0.mk (Kd.R_below (Kd.R_mv HO237) hb); have n9_ := Aside0.mk (Kd.S_below (Kd.S_mv HO240) hb); have n10_ := Aside0.mk (Kd.R_below (Kd.R_mv HO247) hb); have n11_ := Aside0.mk (Kd.R_below (Kd.R_mv HO250) hb); have n12_ := Aside0.mk (Kd.R_below (Kd.R_mv HO255) hb); have n13_ := Aside0.mk (Kd.R_below (Kd.R_mv HO258) hb); have n14_ := Aside0.mk (Kd.S_below (Kd.S_mv HO261) hb); have n15_ := Aside0.mk (blk_below (g := gb197) (o := .cells #[.int .i64 a0_0, .int .i64 a0_1, .int .i64 a0_2, .slice A0_3 l0_3.length c0_3, .slice A0_4 l0_4.length c0_4, .int .i64 a0_5, .int .i64 a0_6, .slice A0_7 l0_7.length c0_7, .slice A0_8 l0_8.length c0_8, .slice A0_9 l0_9.length c0_9] 50 (0, 0)) (blk_mv BK197) hb); have n16_ := Aside0.mk (blk_below (g := gb198) (o := .cells #[.int .i64 a1_0, .int .i64 a1_1, .int .i64 a1_2, .slice A1_3 l1_3.length c1_3, .slice A1_4 l1_4.length c1_4, .int .i64 a1_5, .int .i64 a1_6, .slice A1_7 l1_7.length c1_7, .slice A1_8 l1_8.length c1_8, .slice A1_9 l1_9.length c1_9] 50 (0, 0)) (blk_mv BK198) hb); have n17_ := Aside0.mk (below_step (by repeat (first | (with_reducible first | exact HB.out | apply below_alloc | apply pw_below_drewN | apply below_drew1 | refine below_set ?_ GE197.out | refine below_set ?_ GE198.out) | exact HB.out)) hb); have n18_ := Aside0.mk (hbox); have n19_ := Aside0.mk ((by rw [hg]; exact (below_size (by repeat (first | (with_reducible first | exact HB.out | apply below_alloc | apply pw_below_drewN | apply below_drew1 | refine below_set ?_ GE197.out | refine below_set ?_ GE198.out) | exact HB.out))) : w.heap.size ≤ gb262)); have n20_ := Aside0.mk ((by rw [hg]; exact (below_size (by repeat (first | (with_reducible first | exact HB.out | apply below_alloc | apply pw_below_drewN | apply below_drew1 | refine below_set ?_ GE197.out | refine below_set ?_ GE198.out) | exact HB.out))) : w.heap.size ≤ gb262)); have n21_ := Aside0.mk ((by rw [hg]; exact Nat.ne_of_lt (blk_lt (g := gb197) (o := .cells #[.int .i64 a0_0, .int .i64 a0_1, .int .i64 a0_2, .slice A0_3 l0_3.length c0_3, .slice A0_4 l0_4.length c0_4, .int .i64 a0_5, .int .i64 a0_6, .slice A0_7 l0_7.length c0_7, .slice A0_8 l0_8.length c0_8, .slice A0_9 l0_9.length c0_9] 50 (0, 0)) (blk_mv BK197)) : gb197 ≠ gb262)); have n22_ := Aside0.mk ((by rw [hg]; exact Nat.ne_of_gt (blk_lt (g := gb197) (o := .cells #[.int .i64 a0_0, .int .i64 a0_1, .int .i64 a0_2, .slice A0_3 l0_3.length c0_3, .slice A0_4 l0_4.length c0_4, .int .i64 a0_5, .int .i64 a0_6, .slice A0_7 l0_7.length c0_7, .slice A0_8 l0_8.length c0_8, .slice A0_9 l0_9.length c0_9] 50 (0, 0)) (blk_mv BK197)) : gb262 ≠ gb197)); have n23_ := Aside0.mk ((by rw [hg]; exact Nat.ne_of_lt (blk_lt (g := gb198) (o := .cells #[.int .i64 a1_0, .int .i64 a1_1, .int .i64 a1_2, .slice A1_3 l1_3.length c1_3, .slice A1_4 l1_4.length c1_4, .int .i64 a1_5, .int .i64 a1_6, .slice A1_7 l1_7.length c1_7, .slice A1_8 l1_8.length c1_8, .slice A1_9 l1_9.length c1_9] 50 (0, 0)) (blk_mv BK198)) : gb198 ≠ gb262)); have n24_ := Aside0.mk ((by rw [hg]; exact Nat.ne_of_gt (blk_lt (g := gb198) (o := .cells #[.int .i64 a1_0, .int .i64 a1_1, .int .i64 a1_2, .slice A1_3 l1_3.length c1_3, .slice A1_4 l1_4.length c1_4, .int .i64 a1_5, .int .i64 a1_6, .slice A1_7 l1_7.length c1_7, .slice A1_8 l1_8.length c1_8, .slice A1_9 l1_9.length c1_9] 50 (0, 0)) (blk_mv BK198)) : gb262 ≠ gb198)); clear HO206; clear HO209; clear HO214; clear HO217; clear HO220; clear HO226; clear HO229; clear HO234; clear HO237; clear HO240; clear HO247; clear HO250; clear HO255; clear HO258; clear HO261; clear BK197; clear BK198; clear HB; have HO206 := n0_; have HO209 := n1_; have HO214 := n2_; have HO217 := n3_; have HO220 := n4_; have HO226 := n5_; have HO229 := n6_; have HO234 := n7_; have HO237 := n8_; have HO240 := n9_; have HO247 := n10_; have HO250 := n11_; have HO255 := n12_; have HO258 := n13_; have HO261 := n14_; have BK197 := n15_; have BK198 := n16_; have HB := n17_; have BK262 := n18_; have GW262 := n19_; have GE262 := n20_; have NB197_262 := n21_; have NB262_197 := n22_; have NB198_262 := n23_; have NB262_198 := n24_; clear n0_ n1_ n2_ n3_ n4_ n5_ n6_ n7_ n8_ n9_ n10_ n11_ n12_ n13_ n14_ n15_ n16_ n17_ n18_ n19_ n20_ n21_ n22_ n23_ n24_; clear hb hbox hg; have hnb48 := NB262_197.out; have hnc48 := NB197_262.out; have hnb49 := NB262_198.out; have hnc49 := NB198_262.out; have hcz50_0 : w47.cell? ⟨gb262, 0, none⟩ = some (.int .i64 0) := (blk_cell BK262.out 0).trans rfl; have hcz50_1 : w47.cell? ⟨gb262, 1, none⟩ = some (.int .i64 0) := (blk_cell BK262.out 1).trans rfl; have hcz50_2 : w47.cell? ⟨gb262, 2, none⟩ = some (.int .i64 0) := (blk_cell BK262.out 2).trans rfl; have hcz50_3 : w47.cell? ⟨gb262, 3, none⟩ = some (.slice none 0 0) := (blk_cell BK262.out 3).trans rfl; have hcz50_4 : w47.cell? ⟨gb262, 4, none⟩ = some (.slice none 0 0) := (blk_cell BK262.out 4).trans rfl; have hcz50_5 : w47.cell? ⟨gb262, 5, none⟩ = some (.int .i64 0) := (blk_cell BK262.out 5).trans rfl; have hcz50_6 : w47.cell? ⟨gb262, 6, none⟩ = some (.int .i64 0) := (blk_cell BK262.out 6).trans rfl; have hcz50_7 : w47.cell? ⟨gb262, 7, none⟩ = some (.slice none 0 0) := (blk_cell BK262.out 7).trans rfl; have hcz50_8 : w47.cell? ⟨gb262, 8, none⟩ = some (.slice none 0 0) := (blk_cell BK262.out 8).trans rfl; have hcz50_9 : w47.cell? ⟨gb262, 9, none⟩ = some (.slice none 0 0) := (blk_cell BK262.out 9).trans rfl; have hfz50_0 := blk_frozen BK262.out 0; have hfz50_1 := blk_frozen BK262.out 1; have hfz50_2 := blk_frozen BK262.out 2; have hfz50_3 := blk_frozen BK262.out 3; have hfz50_4 := blk_frozen BK262.out 4; have hfz50_5 := blk_frozen BK262.out 5; have hfz50_6 := blk_frozen BK262.out 6; have hfz50_7 := blk_frozen BK262.out 7; have hfz50_8 := blk_frozen BK262.out 8; have hfz50_9 := blk_frozen BK262.out 9; obtain ⟨Ao51, co51, eo51⟩ := Kd.R_slice HO247.out; subst eo51; obtain ⟨Ao52, co52, eo52⟩ := Kd.R_slice HO250.out; subst eo52; obtain ⟨Ao53, co53, eo53⟩ := Kd.R_slice HO255.out; subst eo53; obtain ⟨Ao54, co54, eo54⟩ := Kd.R_slice HO258.out; subst eo54; obtain ⟨Ao55, co55, eo55⟩ := Kd.S_slice HO261.out; subst eo55; have hcz56_0 : w47.cell? ⟨gb198, 0, none⟩ = some (.int .i64 a1_0) := (blk_cell BK198.out 0).trans rfl; have hcz56_1 : w47.cell? ⟨gb198, 1, none⟩ = some (.int .i64 a1_1) := (blk_cell BK198.out 1).trans rfl; have hcz56_2 : w47.cell? ⟨gb198, 2, none⟩ = some (.int .i64 a1_2) := (blk_cell BK198.out 2).trans rfl; have hcz56_3 : w47.cell? ⟨gb198, 3, none⟩ = some (.slice A1_3 l1_3.length c1_3) := (blk_cell BK198.out 3).trans rfl; have hcz56_4 : w47.cell? ⟨gb198, 4, none⟩ = some (.slice A1_4 l1_4.length c1_4) := (blk_cell BK198.out 4).trans rfl; have hcz56_5 : w47.cell? ⟨gb198, 5, none⟩ = some (.int .i64 a1_5) := (blk_cell BK198.out 5).trans rfl; have hcz56_6 : w47.cell? ⟨gb198, 6, none⟩ = some (.int .i64 a1_6) := (blk_cell BK198.out 6).trans rfl; have hcz56_7 : w47.cell? ⟨gb198, 7, none⟩ = some (.slice A1_7 l1_7.length c1_7) := (blk_cell BK198.out 7).trans rfl; have hcz56_8 : w47.cell? ⟨gb198, 8, none⟩ = some (.slice A1_8 l1_8.length c1_8) := (blk_cell BK198.out 8).trans rfl; have hcz56_9 : w47.cell? ⟨gb198, 9, none⟩ = some (.slice A1_9 l1_9.length c1_9) := (blk_cell BK198.out 9).trans rfl; have hfz56_0 := blk_frozen BK198.out 0; have hfz56_1 := blk_frozen BK198.out 1; have hfz56_2 := blk_frozen BK198.out 2; have hfz56_3 := blk_frozen BK198.out 3; have hfz56_4 := blk_frozen BK198.out 4; have hfz56_5 := blk_frozen BK198.out 5; have hfz56_6 := blk_frozen BK198.out 6; have hfz56_7 := blk_frozen BK198.out 7; have hfz56_8 := blk_frozen BK198.out 8; have hfz56_9 := blk_frozen BK198.out 9) | ((with_reducible refine gate_callee (f := 28) rfl ?_); refine goesL_ (some 28) rfl rfl Try.func28 (by kernel_rfl) rfl #[.agg #[.int .i64 a1_0, .int .i64 a1_1, .int .i64 a1_2, .slice A1_3 l1_3.length c1_3, .slice A1_4 l1_4.length c1_4, .int .i64 a1_5, .int .i64 a1_6, .slice A1_7 l1_7.length c1_7, .slice A1_8 l1_8.length c1_8, .slice A1_9 l1_9.length c1_9]] rfl (by (try simp only [List.map_toArray, List.map_cons, List.map_nil]); first | done | rfl | (simp only [List.length_drop, List.length_take]; rfl)) ?_; (with_reducible refine (laws_toHead.calls k a1_0 a1_1 a1_2 _ _ l1_3 _ _ l1_4 a1_5 a1_6 _ _ l1_7 _ _ l1_8 _ _ l1_9 t263 t264 t265 t266 t269 t272 t273 t274 t277 t280 _ ?side1 ?side2 ?side3 ?side4 ?side5 ?side6 ?side7 ?side8 ?side9 ?side10 A21.out).mono ?_); (case side1 => exact Kd.C_below HR1_3.out (by repeat (first | (with_reducible first | exact HB.out | apply below_alloc | apply pw_below_drewN | apply below_drew1 | refine below_set ?_ GE197.out | refine below_set ?_ GE198.out | refine below_set ?_ GE262.out) | exact HB.out))); (case side2 => exact HC1_3.out); (case side3 => exact Kd.C_below HR1_4.out (by repeat (first | (with_reducible first | exact HB.out | apply below_alloc | apply pw_below_drewN | apply below_drew1 | refine below_set ?_ GE197.out | refine below_set ?_ GE198.out | refine below_set ?_ GE262.out) | exact HB.out))); (case side4 => exact HC1_4.out); (case side5 => exact Kd.C_below HR1_7.out (by repeat (first | (with_reducible first | exact HB.out | apply below_alloc | apply pw_below_drewN | apply below_drew1 | refine below_set ?_ GE197.out | refine below_set ?_ GE198.out | refine below_set ?_ GE262.out) | exact HB.out))); (case side6 => exact HC1_7.out); (case side7 => exact Kd.C_below HR1_8.out (by repeat (first | (with_reducible first | exact HB.out | apply below_alloc | apply pw_below_drewN | apply below_drew1 | refine below_set ?_ GE197.out | refine below_set ?_ GE198.out | refine below_set ?_ GE262.out) | exact HB.out))); (case side8 => exact HC1_8.out); (case side9 => exact Kd.C_below HR1_9.out (by repeat (first | (with_reducible first | exact HB.out | apply below_alloc | apply pw_below_drewN | apply below_drew1 | refine below_set ?_ GE197.out | refine below_set ?_ GE198.out | refine below_set ?_ GE262.out) | exact HB.out))); (case side10 => exact HC1_9.out); rintro e w57 ⟨v267, v270, v275, v278, v281, rfl, ho0, ho1, ho2, ho3, ho4, hb⟩; refine ⟨_, rfl, ?_⟩; have n0_ := Aside0.mk (Kd.R_mono (Kd.R_told (Kd.R_told (Kd.R_told (Kd.R_told (Kd.R_old (by (with_reducible repeat (first | apply Kd.R_alloc | apply Kd.R_drewN | apply Kd.R_drew)); exact (Kd.R_mono (Kd.R_fars (Kd.R_types HO206.out BK262.out (by decide)) (fun _ hk => hk.2)) (fun _ h_ => h_.1))) hb) (Kd.R_base ho0)) (Kd.R_base ho1)) (Kd.R_base ho2)) (Kd.R_base ho3)) (fun _ h_ => h_.1)); have n1_ := Aside0.mk (Kd.R_mono (Kd.R_told (Kd.R_told (Kd.R_told (Kd.R_told (Kd.R_old (by (with_reducible repeat (first | apply Kd.R_alloc | apply Kd.R_drewN | apply Kd.R_drew)); exact (Kd.R_mono (Kd.R_fars (Kd.R_types HO209.out BK262.out (by decide)) (fun _ hk => hk.2)) (fun _ h_ => h_.1))) hb) (Kd.R_base ho0)) (Kd.R_base ho1)) (Kd.R_base ho2)) (Kd.R_base ho3)) (fun _ h_ => h_.1)); have n2_ := Aside0.mk (Kd.R_mono (Kd.R_told (Kd.R_told (Kd.R_told (Kd.R_told (Kd.R_old (by (with_reducible repeat (first | apply Kd.R_alloc | apply Kd.R_drewN | apply Kd.R_drew)); exact (Kd.R_mono (Kd.R_fars (Kd.R_types HO214.out BK262.out (by decide)) (fun _ hk => hk.2)) (fun _ h_ => h_.1))) hb) (Kd.R_base ho0)) (Kd.R_base ho1)) (Kd.R_base ho2)) (Kd.R_base ho3)) (fun _ h_ => h_.1)); have n3_ := Aside0.mk (Kd.R_mono (Kd.R_told (Kd.R_told (Kd.R_told (Kd.R_told (Kd.R_old (by (with_reducible repeat (first | apply Kd.R_alloc | apply Kd.R_drewN | apply Kd.R_drew)); exact (Kd.R_mono (Kd.R_fars (Kd.R_types HO217.out BK262.out (by decide)) (fun _ hk => hk.2)) (fun _ h_ => h_.1))) hb) (Kd.R_base ho0)) (Kd.R_base ho1)) (Kd.R_base ho2)) (Kd.R_base ho3)) (fun _ h_ => h_.1)); have n4_ := Aside0.mk (Kd.S_mono (Kd.S_told (Kd.S_told (Kd.S_told (Kd.S_told (Kd.S_told (Kd.S_old (by (with_reducible repeat (first | apply Kd.S_alloc | apply Kd.S_drewN | apply Kd.S_drew)); exact (Kd.S_mono (Kd.S_fars (Kd.S_types HO220.out BK262.out (by decide)) (fun _ hk => hk.2)) (fun _ h_ => h_.1))) hb) (Kd.R_base ho0)) (Kd.R_base ho1)) (Kd.R_base ho2)) (Kd.R_base ho3)) (Kd.S_base ho4)) (fun _ h_ => h_.1)); have n5_ := Aside0.mk (Kd.R_mono (Kd.R_told (Kd.R_told (Kd.R_told (Kd.R_told (Kd.R_old (by (with_reducible repeat (first | apply Kd.R_alloc | apply Kd.R_drewN | apply Kd.R_drew)); exact (Kd.R_mono (Kd.R_fars (Kd.R_types HO226.out BK262.out (by decide)) (fun _ hk => hk.2)) (fun _ h_ => h_.1))) hb) (Kd.R_base ho0)) (Kd.R_base ho1)) (Kd.R_base ho2)) (Kd.R_base ho3)) (fun _ h_ => h_.1)); have n6_ := Aside0.mk (Kd.R_mono (Kd.R_told (Kd.R_told (Kd.R_told (Kd.R_told (Kd.R_old (by (with_reducible repeat (first | apply Kd.R_alloc | apply Kd.R_drewN | apply Kd.R_drew)); exact (Kd.R_mono (Kd.R_fars (Kd.R_types HO229.out BK262.out (by decide)) (fun _ hk => hk.2)) (fun _ h_ => h_.1))) hb) (Kd.R_base ho0)) (Kd.R_base ho1)) (Kd.R_base ho2)) (Kd.R_base ho3)) (fun _ h_ => h_.1)); have n7_ := Aside0.mk (Kd.R_mono (Kd.R_told (Kd.R_told (Kd.R_told (Kd.R_told (Kd.R_old (by (with_reducible repeat (first | apply Kd.R_alloc | apply Kd.R_drewN | apply Kd.R_drew)); exact (Kd.R_mono (Kd.R_fars (Kd.R_types HO234.out BK262.out (by decide)) (fun _ hk => hk.2)) (fun _ h_ => h_.1))) hb) (Kd.R_base ho0)) (Kd.R_base ho1)) (Kd.R_base ho2)) (Kd.R_base ho3)) (fun _ h_ => h_.1)); have n8_ := Aside0.mk (Kd.R_mono (Kd.R_told (Kd.R_told (Kd.R_told (Kd.R_told (Kd.R_old (by (with_reducible repeat (first | apply Kd.R_alloc | apply Kd.R_drewN | apply Kd.R_drew)); exact (Kd.R_mono (Kd.R_fars (Kd.R_types HO237.out BK262.out (by decide)) (fun _ hk => hk.2)) (fun _ h_ => h_.1))) hb) (Kd.R_base ho0)) (Kd.R_base ho1)) (Kd.R_base ho2)) (Kd.R_base ho3)) (fun _ h_ => h_.1)); have n9_ := Aside0.mk (Kd.S_mono (Kd.S_told (Kd.S_told (Kd.S_told (Kd.S_told (Kd.S_told (Kd.S_old (by (with_reducible repeat (first | apply Kd.S_alloc | apply Kd.S_drewN | apply Kd.S_drew)); exact (Kd.S_mono (Kd.S_fars (Kd.S_types HO240.out BK262.out (by decide)) (fun _ hk => hk.2)) (fun _ h_ => h_.1))) hb) (Kd.R_base ho0)) (Kd.R_base ho1)) (Kd.R_base ho2)) (Kd.R_base ho3)) (Kd.S_base ho4)) (fun _ h_ => h_.1)); have n10_ := Aside0.mk (Kd.R_mono (Kd.R_told (Kd.R_told (Kd.R_told (Kd.R_told (Kd.R_old (by (with_reducible repeat (first | apply Kd.R_alloc | apply Kd.R_drewN | apply Kd.R_drew)); exact (Kd.R_mono (Kd.R_fars (Kd.R_types HO247.out BK262.out (by decide)) (fun _ hk => hk.2)) (fun _ h_ => h_.1))) hb) (Kd.R_base ho0)) (Kd.R_base ho1)) (Kd.R_base ho2)) (Kd.R_base ho3)) (fun _ h_ => h_.1)); have n11_ := Aside0.mk (Kd.R_mono (Kd.R_told (Kd.R_told (Kd.R_told (Kd.R_told (Kd.R_old (by (with_reducible repeat (first | apply Kd.R_alloc | apply Kd.R_drewN | apply Kd.R_drew)); exact (Kd.R_mono (Kd.R_fars (Kd.R_types HO250.out BK262.out (by decide)) (fun _ hk => hk.2)) (fun _ h_ => h_.1))) hb) (Kd.R_base ho0)) (Kd.R_base ho1)) (Kd.R_base ho2)) (Kd.R_base ho3)) (fun _ h_ => h_.1)); have n12_ := Aside0.mk (Kd.R_mono (Kd.R_told (Kd.R_told (Kd.R_told (Kd.R_told (Kd.R_old (by (with_reducible repeat (first | apply Kd.R_alloc | apply Kd.R_drewN | apply Kd.R_drew)); exact (Kd.R_mono (Kd.R_fars (Kd.R_types HO255.out BK262.out (by decide)) (fun _ hk => hk.2)) (fun _ h_ => h_.1))) hb) (Kd.R_base ho0)) (Kd.R_base ho1)) (Kd.R_base ho2)) (Kd.R_base ho3)) (fun _ h_ => h_.1)); have n13_ := Aside0.mk (Kd.R_mono (Kd.R_told (Kd.R_told (Kd.R_told (Kd.R_told (Kd.R_old (by (with_reducible repeat (first | apply Kd.R_alloc | apply Kd.R_drewN | apply Kd.R_drew)); exact (Kd.R_mono (Kd.R_fars (Kd.R_types HO258.out BK262.out (by decide)) (fun _ hk => hk.2)) (fun _ h_ => h_.1))) hb) (Kd.R_base ho0)) (Kd.R_base ho1)) (Kd.R_base ho2)) (Kd.R_base ho3)) (fun _ h_ => h_.1)); have n14_ := Aside0.mk (Kd.S_mono (Kd.S_told (Kd.S_told (Kd.S_told (Kd.S_told (Kd.S_told (Kd.S_old (by (with_reducible repeat (first | apply Kd.S_alloc | apply Kd.S_drewN | apply Kd.S_drew)); exact (Kd.S_mono (Kd.S_fars (Kd.S_types HO261.out BK262.out (by decide)) (fun _ hk => hk.2)) (fun _ h_ => h_.1))) hb) (Kd.R_base ho0)) (Kd.R_base ho1)) (Kd.R_base ho2)) (Kd.R_base ho3)) (Kd.S_base ho4)) (fun _ h_ => h_.1)); have n15_ := Aside0.mk (Kd.R_lower (Kd.R_new' (Kd.R_new' (Kd.R_new' (Kd.R_new' (Kd.R_new' (Kd.R_new' (Kd.R_new' (Kd.R_new' (Kd.R_new' (Kd.R_new' (Kd.R_new' (Kd.R_new' ho0 (Kd.R_lt (by (with_reducible repeat (first | apply Kd.R_alloc | apply Kd.R_drewN | apply Kd.R_drew)); exact (Kd.R_mono (Kd.R_fars (Kd.R_types HO206.out BK262.out (by decide)) (fun _ hk => hk.2)) (fun _ h_ => h_.1))))) (Kd.R_lt (by (with_reducible repeat (first | apply Kd.R_alloc | apply Kd.R_drewN | apply Kd.R_drew)); exact (Kd.R_mono (Kd.R_fars (Kd.R_types HO209.out BK262.out (by decide)) (fun _ hk => hk.2)) (fun _ h_ => h_.1))))) (Kd.R_lt (by (with_reducible repeat (first | apply Kd.R_alloc | apply Kd.R_drewN | apply Kd.R_drew)); exact (Kd.R_mono (Kd.R_fars (Kd.R_types HO214.out BK262.out (by decide)) (fun _ hk => hk.2)) (fun _ h_ => h_.1))))) (Kd.R_lt (by (with_reducible repeat (first | apply Kd.R_alloc | apply Kd.R_drewN | apply Kd.R_drew)); exact (Kd.R_mono (Kd.R_fars (Kd.R_types HO217.out BK262.out (by decide)) (fun _ hk => hk.2)) (fun _ h_ => h_.1))))) (Kd.R_lt (by (with_reducible repeat (first | apply Kd.R_alloc | apply Kd.R_drewN | apply Kd.R_drew)); exact (Kd.R_mono (Kd.R_fars (Kd.R_types HO226.out BK262.out (by decide)) (fun _ hk => hk.2)) (fun _ h_ => h_.1))))) (Kd.R_lt (by (with_reducible repeat (first | apply Kd.R_alloc | apply Kd.R_drewN | apply Kd.R_drew)); exact (Kd.R_mono (Kd.R_fars (Kd.R_types HO229.out BK262.out (by decide)) (fun _ hk => hk.2)) (fun _ h_ => h_.1))))) (Kd.R_lt (by (with_reducible repeat (first | apply Kd.R_alloc | apply Kd.R_drewN | apply Kd.R_drew)); exact (Kd.R_mono (Kd.R_fars (Kd.R_types HO234.out BK262.out (by decide)) (fun _ hk => hk.2)) (fun _ h_ => h_.1))))) (Kd.R_lt (by (with_reducible repeat (first | apply Kd.R_alloc | apply Kd.R_drewN | apply Kd.R_drew)); exact (Kd.R_mono (Kd.R_fars (Kd.R_types HO237.out BK262.out (by decide)) (fun _ hk => hk.2)) (fun _ h_ => h_.1))))) (Kd.R_lt (by (with_reducible repeat (first | apply Kd.R_alloc | apply Kd.R_drewN | apply Kd.R_drew)); exact (Kd.R_mono (Kd.R_fars (Kd.R_types HO247.out BK262.out (by decide)) (fun _ hk => hk.2)) (fun _ h_ => h_.1))))) (Kd.R_lt (by (with_reducible repeat (first | apply Kd.R_alloc | apply Kd.R_drewN | apply Kd.R_drew)); exact (Kd.R_mono (Kd.R_fars (Kd.R_types HO250.out BK262.out (by decide)) (fun _ hk => hk.2)) (fun _ h_ => h_.1))))) (Kd.R_lt (by (with_reducible repeat (first | apply Kd.R_alloc | apply Kd.R_drewN | apply Kd.R_drew)); exact (Kd.R_mono (Kd.R_fars (Kd.R_types HO255.out BK262.out (by decide)) (fun _ hk => hk.2)) (fun _ h_ => h_.1))))) (Kd.R_lt (by (with_reducible repeat (first | apply Kd.R_alloc | apply Kd.R_drewN | apply Kd.R_drew)); exact (Kd.R_mono (Kd.R_fars (Kd.R_types HO258.out BK262.out (by decide)) (fun _ hk => hk.2)) (fun _ h_ => h_.1))))) (below_size (by repeat (first | (with_reducible first | exact HB.out | apply below_alloc | apply pw_below_drewN | apply below_drew1 | refine below_set ?_ GE197.out | refine below_set ?_ GE198.out | refine below_set ?_ GE262.out) | exact HB.out)))); have n16_ := Aside0.mk (Kd.R_lower (Kd.R_new' (Kd.R_new' (Kd.R_new' (Kd.R_new' (Kd.R_new' (Kd.R_new' (Kd.R_new' (Kd.R_new' (Kd.R_new' (Kd.R_new' (Kd.R_new' (Kd.R_new' ho1 (Kd.R_lt (by (with_reducible repeat (first | apply Kd.R_alloc | apply Kd.R_drewN | apply Kd.R_drew)); exact (Kd.R_mono (Kd.R_fars (Kd.R_types HO206.out BK262.out (by decide)) (fun _ hk => hk.2)) (fun _ h_ => h_.1))))) (Kd.R_lt (by (with_reducible repeat (first | apply Kd.R_alloc | apply Kd.R_drewN | apply Kd.R_drew)); exact (Kd.R_mono (Kd.R_fars (Kd.R_types HO209.out BK262.out (by decide)) (fun _ hk => hk.2)) (fun _ h_ => h_.1))))) (Kd.R_lt (by (with_reducible repeat (first | apply Kd.R_alloc | apply Kd.R_drewN | apply Kd.R_drew)); exact (Kd.R_mono (Kd.R_fars (Kd.R_types HO214.out BK262.out (by decide)) (fun _ hk => hk.2)) (fun _ h_ => h_.1))))) (Kd.R_lt (by (with_reducible repeat (first | apply Kd.R_alloc | apply Kd.R_drewN | apply Kd.R_drew)); exact (Kd.R_mono (Kd.R_fars (Kd.R_types HO217.out BK262.out (by decide)) (fun _ hk => hk.2)) (fun _ h_ => h_.1))))) (Kd.R_lt (by (with_reducible repeat (first | apply Kd.R_alloc | apply Kd.R_drewN | apply Kd.R_drew)); exact (Kd.R_mono (Kd.R_fars (Kd.R_types HO226.out BK262.out (by decide)) (fun _ hk => hk.2)) (fun _ h_ => h_.1))))) (Kd.R_lt (by (with_reducible repeat (first | apply Kd.R_alloc | apply Kd.R_drewN | apply Kd.R_drew)); exact (Kd.R_mono (Kd.R_fars (Kd.R_types HO229.out BK262.out (by decide)) (fun _ hk => hk.2)) (fun _ h_ => h_.1))))) (Kd.R_lt (by (with_reducible repeat (first | apply Kd.R_alloc | apply Kd.R_drewN | apply Kd.R_drew)); exact (Kd.R_mono (Kd.R_fars (Kd.R_types HO234.out BK262.out (by decide)) (fun _ hk => hk.2)) (fun _ h_ => h_.1))))) (Kd.R_lt (by (with_reducible repeat (first | apply Kd.R_alloc | apply Kd.R_drewN | apply Kd.R_drew)); exact (Kd.R_mono (Kd.R_fars (Kd.R_types HO237.out BK262.out (by decide)) (fun _ hk => hk.2)) (fun _ h_ => h_.1))))) (Kd.R_lt (by (with_reducible repeat (first | apply Kd.R_alloc | apply Kd.R_drewN | apply Kd.R_drew)); exact (Kd.R_mono (Kd.R_fars (Kd.R_types HO247.out BK262.out (by decide)) (fun _ hk => hk.2)) (fun _ h_ => h_.1))))) (Kd.R_lt (by (with_reducible repeat (first | apply Kd.R_alloc | apply Kd.R_drewN | apply Kd.R_drew)); exact (Kd.R_mono (Kd.R_fars (Kd.R_types HO250.out BK262.out (by decide)) (fun _ hk => hk.2)) (fun _ h_ => h_.1))))) (Kd.R_lt (by (with_reducible repeat (first | apply Kd.R_alloc | apply Kd.R_drewN | apply Kd.R_drew)); exact (Kd.R_mono (Kd.R_fars (Kd.R_types HO255.out BK262.out (by decide)) (fun _ hk => hk.2)) (fun _ h_ => h_.1))))) (Kd.R_lt (by (with_reducible repeat (first | apply Kd.R_alloc | apply Kd.R_drewN | apply Kd.R_drew)); exact (Kd.R_mono (Kd.R_fars (Kd.R_types HO258.out BK262.out (by decide)) (fun _ hk => hk.2)) (fun _ h_ => h_.1))))) (below_size (by repeat (first | (with_reducible first | exact HB.out | apply below_alloc | apply pw_below_drewN | apply below_drew1 | refine below_set ?_ GE197.out | refine below_set ?_ GE198.out | refine below_set ?_ GE262.out) | exact HB.out)))); have n17_ := Aside0.mk (Kd.R_lower (Kd.R_new' (Kd.R_new' (Kd.R_new' (Kd.R_new' (Kd.R_new' (Kd.R_new' (Kd.R_new' (Kd.R_new' (Kd.R_new' (Kd.R_new' (Kd.R_new' (Kd.R_new' ho2 (Kd.R_lt (by (with_reducible repeat (first | apply Kd.R_alloc | apply Kd.R_drewN | apply Kd.R_drew)); exact (Kd.R_mono (Kd.R_fars (Kd.R_types HO206.out BK262.out (by decide)) (fun _ hk => hk.2)) (fun _ h_ => h_.1))))) (Kd.R_lt (by (with_reducible repeat (first | apply Kd.R_alloc | apply Kd.R_drewN | apply Kd.R_drew)); exact (Kd.R_mono (Kd.R_fars (Kd.R_types HO209.out BK262.out (by decide)) (fun _ hk => hk.2)) (fun _ h_ => h_.1))))) (Kd.R_lt (by (with_reducible repeat (first | apply Kd.R_alloc | apply Kd.R_drewN | apply Kd.R_drew)); exact (Kd.R_mono (Kd.R_fars (Kd.R_types HO214.out BK262.out (by decide)) (fun _ hk => hk.2)) (fun _ h_ => h_.1))))) (Kd.R_lt (by (with_reducible repeat (first | apply Kd.R_alloc | apply Kd.R_drewN | apply Kd.R_drew)); exact (Kd.R_mono (Kd.R_fars (Kd.R_types HO217.out BK262.out (by decide)) (fun _ hk => hk.2)) (fun _ h_ => h_.1))))) (Kd.R_lt (by (with_reducible repeat (first | apply Kd.R_alloc | apply Kd.R_drewN | apply Kd.R_drew)); exact (Kd.R_mono (Kd.R_fars (Kd.R_types HO226.out BK262.out (by decide)) (fun _ hk => hk.2)) (fun _ h_ => h_.1))))) (Kd.R_lt (by (with_reducible repeat (first | apply Kd.R_alloc | apply Kd.R_drewN | apply Kd.R_drew)); exact (Kd.R_mono (Kd.R_fars (Kd.R_types HO229.out BK262.out (by decide)) (fun _ hk => hk.2)) (fun _ h_ => h_.1))))) (Kd.R_lt (by (with_reducible repeat (first | apply Kd.R_alloc | apply Kd.R_drewN | apply Kd.R_drew)); exact (Kd.R_mono (Kd.R_fars (Kd.R_types HO234.out BK262.out (by decide)) (fun _ hk => hk.2)) (fun _ h_ => h_.1))))) (Kd.R_lt (by (with_reducible repeat (first | apply Kd.R_alloc | apply Kd.R_drewN | apply Kd.R_drew)); exact (Kd.R_mono (Kd.R_fars (Kd.R_types HO237.out BK262.out (by decide)) (fun _ hk => hk.2)) (fun _ h_ => h_.1))))) (Kd.R_lt (by (with_reducible repeat (first | apply Kd.R_alloc | apply Kd.R_drewN | apply Kd.R_drew)); exact (Kd.R_mono (Kd.R_fars (Kd.R_types HO247.out BK262.out (by decide)) (fun _ hk => hk.2)) (fun _ h_ => h_.1))))) (Kd.R_lt (by (with_reducible repeat (first | apply Kd.R_alloc | apply Kd.R_drewN | apply Kd.R_drew)); exact (Kd.R_mono (Kd.R_fars (Kd.R_types HO250.out BK262.out (by decide)) (fun _ hk => hk.2)) (fun _ h_ => h_.1))))) (Kd.R_lt (by (with_reducible repeat (first | apply Kd.R_alloc | apply Kd.R_drewN | apply Kd.R_drew)); exact (Kd.R_mono (Kd.R_fars (Kd.R_types HO255.out BK262.out (by decide)) (fun _ hk => hk.2)) (fun _ h_ => h_.1))))) (Kd.R_lt (by (with_reducible repeat (first | apply Kd.R_alloc | apply Kd.R_drewN | apply Kd.R_drew)); exact (Kd.R_mono (Kd.R_fars (Kd.R_types HO258.out BK262.out (by decide)) (fun _ hk => hk.2)) (fun _ h_ => h_.1))))) (below_size (by repeat (first | (with_reducible first | exact HB.out | apply below_alloc | apply pw_below_drewN | apply below_drew1 | refine below_set ?_ GE197.out | refine below_set ?_ GE198.out | refine below_set ?_ GE262.out) | exact HB.out)))); have n18_ := Aside0.mk (Kd.R_lower (Kd.R_new' (Kd.R_new' (Kd.R_new' (Kd.R_new' (Kd.R_new' (Kd.R_new' (Kd.R_new' (Kd.R_new' (Kd.R_new' (Kd.R_new' (Kd.R_new' (Kd.R_new' ho3 (Kd.R_lt (by (with_reducible repeat (first | apply Kd.R_alloc | apply Kd.R_drewN | apply Kd.R_drew)); exact (Kd.R_mono (Kd.R_fars (Kd.R_types HO206.out BK262.out (by decide)) (fun _ hk => hk.2)) (fun _ h_ => h_.1))))) (Kd.R_lt (by (with_reducible repeat (first | apply Kd.R_alloc | apply Kd.R_drewN | apply Kd.R_drew)); exact (Kd.R_mono (Kd.R_fars (Kd.R_types HO209.out BK262.out (by decide)) (fun _ hk => hk.2)) (fun _ h_ => h_.1))))) (Kd.R_lt (by (with_reducible repeat (first | apply Kd.R_alloc | apply Kd.R_drewN | apply Kd.R_drew)); exact (Kd.R_mono (Kd.R_fars (Kd.R_types HO214.out BK262.out (by decide)) (fun _ hk => hk.2)) (fun _ h_ => h_.1))))) (Kd.R_lt (by (with_reducible repeat (first | apply Kd.R_alloc | apply Kd.R_drewN | apply Kd.R_drew)); exact (Kd.R_mono (Kd.R_fars (Kd.R_types HO217.out BK262.out (by decide)) (fun _ hk => hk.2)) (fun _ h_ => h_.1))))) (Kd.R_lt (by (with_reducible repeat (first | apply Kd.R_alloc | apply Kd.R_drewN | apply Kd.R_drew)); exact (Kd.R_mono (Kd.R_fars (Kd.R_types HO226.out BK262.out (by decide)) (fun _ hk => hk.2)) (fun _ h_ => h_.1))))) (Kd.R_lt (by (with_reducible repeat (first | apply Kd.R_alloc | apply Kd.R_drewN | apply Kd.R_drew)); exact (Kd.R_mono (Kd.R_fars (Kd.R_types HO229.out BK262.out (by decide)) (fun _ hk => hk.2)) (fun _ h_ => h_.1))))) (Kd.R_lt (by (with_reducible repeat (first | apply Kd.R_alloc | apply Kd.R_drewN | apply Kd.R_drew)); exact (Kd.R_mono (Kd.R_fars (Kd.R_types HO234.out BK262.out (by decide)) (fun _ hk => hk.2)) (fun _ h_ => h_.1))))) (Kd.R_lt (by (with_reducible repeat (first | apply Kd.R_alloc | apply Kd.R_drewN | apply Kd.R_drew)); exact (Kd.R_mono (Kd.R_fars (Kd.R_types HO237.out BK262.out (by decide)) (fun _ hk => hk.2)) (fun _ h_ => h_.1))))) (Kd.R_lt (by (with_reducible repeat (first | apply Kd.R_alloc | apply Kd.R_drewN | apply Kd.R_drew)); exact (Kd.R_mono (Kd.R_fars (Kd.R_types HO247.out BK262.out (by decide)) (fun _ hk => hk.2)) (fun _ h_ => h_.1))))) (Kd.R_lt (by (with_reducible repeat (first | apply Kd.R_alloc | apply Kd.R_drewN | apply Kd.R_drew)); exact (Kd.R_mono (Kd.R_fars (Kd.R_types HO250.out BK262.out (by decide)) (fun _ hk => hk.2)) (fun _ h_ => h_.1))))) (Kd.R_lt (by (with_reducible repeat (first | apply Kd.R_alloc | apply Kd.R_drewN | apply Kd.R_drew)); exact (Kd.R_mono (Kd.R_fars (Kd.R_types HO255.out BK262.out (by decide)) (fun _ hk => hk.2)) (fun _ h_ => h_.1))))) (Kd.R_lt (by (with_reducible repeat (first | apply Kd.R_alloc | apply Kd.R_drewN | apply Kd.R_drew)); exact (Kd.R_mono (Kd.R_fars (Kd.R_types HO258.out BK262.out (by decide)) (fun _ hk => hk.2)) (fun _ h_ => h_.1))))) (below_size (by repeat (first | (with_reducible first | exact HB.out | apply below_alloc | apply pw_below_drewN | apply below_drew1 | refine below_set ?_ GE197.out | refine below_set ?_ GE198.out | refine below_set ?_ GE262.out) | exact HB.out)))); have n19_ := Aside0.mk (Kd.S_lower (Kd.S_new' (Kd.S_new' (Kd.S_new' (Kd.S_new' (Kd.S_new' (Kd.S_new' (Kd.S_new' (Kd.S_new' (Kd.S_new' (Kd.S_new' (Kd.S_new' (Kd.S_new' (Kd.S_new' (Kd.S_new' (Kd.S_new' ho4 (Kd.R_lt (by (with_reducible repeat (first | apply Kd.R_alloc | apply Kd.R_drewN | apply Kd.R_drew)); exact (Kd.R_mono (Kd.R_fars (Kd.R_types HO206.out BK262.out (by decide)) (fun _ hk => hk.2)) (fun _ h_ => h_.1))))) (Kd.R_lt (by (with_reducible repeat (first | apply Kd.R_alloc | apply Kd.R_drewN | apply Kd.R_drew)); exact (Kd.R_mono (Kd.R_fars (Kd.R_types HO209.out BK262.out (by decide)) (fun _ hk => hk.2)) (fun _ h_ => h_.1))))) (Kd.R_lt (by (with_reducible repeat (first | apply Kd.R_alloc | apply Kd.R_drewN | apply Kd.R_drew)); exact (Kd.R_mono (Kd.R_fars (Kd.R_types HO214.out BK262.out (by decide)) (fun _ hk => hk.2)) (fun _ h_ => h_.1))))) (Kd.R_lt (by (with_reducible repeat (first | apply Kd.R_alloc | apply Kd.R_drewN | apply Kd.R_drew)); exact (Kd.R_mono (Kd.R_fars (Kd.R_types HO217.out BK262.out (by decide)) (fun _ hk => hk.2)) (fun _ h_ => h_.1))))) (Kd.S_lt (by (with_reducible repeat (first | apply Kd.S_alloc | apply Kd.S_drewN | apply Kd.S_drew)); exact (Kd.S_mono (Kd.S_fars (Kd.S_types HO220.out BK262.out (by decide)) (fun _ hk => hk.2)) (fun _ h_ => h_.1))))) (Kd.R_lt (by (with_reducible repeat (first | apply Kd.R_alloc | apply Kd.R_drewN | apply Kd.R_drew)); exact (Kd.R_mono (Kd.R_fars (Kd.R_types HO226.out BK262.out (by decide)) (fun _ hk => hk.2)) (fun _ h_ => h_.1))))) (Kd.R_lt (by (with_reducible repeat (first | apply Kd.R_alloc | apply Kd.R_drewN | apply Kd.R_drew)); exact (Kd.R_mono (Kd.R_fars (Kd.R_types HO229.out BK262.out (by decide)) (fun _ hk => hk.2)) (fun _ h_ => h_.1))))) (Kd.R_lt (by (with_reducible repeat (first | apply Kd.R_alloc | apply Kd.R_drewN | apply Kd.R_drew)); exact (Kd.R_mono (Kd.R_fars (Kd.R_types HO234.out BK262.out (by decide)) (fun _ hk => hk.2)) (fun _ h_ => h_.1))))) (Kd.R_lt (by (with_reducible repeat (first | apply Kd.R_alloc | apply Kd.R_drewN | apply Kd.R_drew)); exact (Kd.R_mono (Kd.R_fars (Kd.R_types HO237.out BK262.out (by decide)) (fun _ hk => hk.2)) (fun _ h_ => h_.1))))) (Kd.S_lt (by (with_reducible repeat (first | apply Kd.S_alloc | apply Kd.S_drewN | apply Kd.S_drew)); exact (Kd.S_mono (Kd.S_fars (Kd.S_types HO240.out BK262.out (by decide)) (fun _ hk => hk.2)) (fun _ h_ => h_.1))))) (Kd.R_lt (by (with_reducible repeat (first | apply Kd.R_alloc | apply Kd.R_drewN | apply Kd.R_drew)); exact (Kd.R_mono (Kd.R_fars (Kd.R_types HO247.out BK262.out (by decide)) (fun _ hk => hk.2)) (fun _ h_ => h_.1))))) (Kd.R_lt (by (with_reducible repeat (first | apply Kd.R_alloc | apply Kd.R_drewN | apply Kd.R_drew)); exact (Kd.R_mono (Kd.R_fars (Kd.R_types HO250.out BK262.out (by decide)) (fun _ hk => hk.2)) (fun _ h_ => h_.1))))) (Kd.R_lt (by (with_reducible repeat (first | apply Kd.R_alloc | apply Kd.R_drewN | apply Kd.R_drew)); exact (Kd.R_mono (Kd.R_fars (Kd.R_types HO255.out BK262.out (by decide)) (fun _ hk => hk.2)) (fun _ h_ => h_.1))))) (Kd.R_lt (by (with_reducible repeat (first | apply Kd.R_alloc | apply Kd.R_drewN | apply Kd.R_drew)); exact (Kd.R_mono (Kd.R_fars (Kd.R_types HO258.out BK262.out (by decide)) (fun _ hk => hk.2)) (fun _ h_ => h_.1))))) (Kd.S_lt (by (with_reducible repeat (first | apply Kd.S_alloc | apply Kd.S_drewN | apply Kd.S_drew)); exact (Kd.S_mono (Kd.S_fars (Kd.S_types HO261.out BK262.out (by decide)) (fun _ hk => hk.2)) (fun _ h_ => h_.1))))) (below_size (by repeat (first | (with_reducible first | exact HB.out | apply below_alloc | apply pw_below_drewN | apply below_drew1 | refine below_set ?_ GE197.out | refine below_set ?_ GE198.out | refine below_set ?_ GE262.out) | exact HB.out)))); have n20_ := Aside0.mk (blk_below (g := gb197) (o := .cells #[.int .i64 a0_0, .int .i64 a0_1, .int .i64 a0_2, .slice A0_3 l0_3.length c0_3, .slice A0_4 l0_4.length c0_4, .int .i64 a0_5, .int .i64 a0_6, .slice A0_7 l0_7.length c0_7, .slice A0_8 l0_8.length c0_8, .slice A0_9 l0_9.length c0_9] 50 (0, 0)) (by (with_reducible repeat (first | refine blk_drewN ?_ _ | refine blk_drew ?_ | refine blk_alloc ?_ _)); refine blk_far ?_ NB197_262.out _; (with_reducible repeat (first | refine blk_drewN ?_ _ | refine blk_drew ?_ | refine blk_alloc ?_ _)); refine blk_far ?_ NB197_262.out _; (with_reducible repeat (first | refine blk_drewN ?_ _ | refine blk_drew ?_ | refine blk_alloc ?_ _)); refine blk_far ?_ NB197_262.out _; (with_reducible repeat (first | refine blk_drewN ?_ _ | refine blk_drew ?_ | refine blk_alloc ?_ _)); refine blk_far ?_ NB197_262.out _; (with_reducible repeat (first | refine blk_drewN ?_ _ | refine blk_drew ?_ | refine blk_alloc ?_ _)); refine blk_far ?_ NB197_262.out _; (with_reducible repeat (first | refine blk_drewN ?_ _ | refine blk_drew ?_ | refine blk_alloc ?_ _)); refine blk_far ?_ NB197_262.out _; (with_reducible repeat (first | refine blk_drewN ?_ _ | refine blk_drew ?_ | refine blk_alloc ?_ _)); refine blk_far ?_ NB197_262.out _; (with_reducible repeat (first | refine blk_drewN ?_ _ | refine blk_drew ?_ | refine blk_alloc ?_ _)); refine blk_far ?_ NB197_262.out _; (with_reducible repeat (first | refine blk_drewN ?_ _ | refine blk_drew ?_ | refine blk_alloc ?_ _)); refine blk_far ?_ NB197_262.out _; (with_reducible repeat (first | refine blk_drewN ?_ _ | refine blk_drew ?_ | refine blk_alloc ?_ _)); refine blk_far ?_ NB197_262.out _; (with_reducible repeat (first | refine blk_drewN ?_ _ | refine blk_drew ?_ | refine blk_alloc ?_ _)); exact BK197.out) hb); have n21_ := Aside0.mk (blk_below (g := gb198) (o := .cells #[.int .i64 a1_0, .int .i64 a1_1, .int .i64 a1_2, .slice A1_3 l1_3.length c1_3, .slice A1_4 l1_4.length c1_4, .int .i64 a1_5, .int .i64 a1_6, .slice A1_7 l1_7.length c1_7, .slice A1_8 l1_8.length c1_8, .slice A1_9 l1_9.length c1_9] 50 (0, 0)) (by (with_reducible repeat (first | refine blk_drewN ?_ _ | refine blk_drew ?_ | refine blk_alloc ?_ _)); refine blk_far ?_ NB198_262.out _; (with_reducible repeat (first | refine blk_drewN ?_ _ | refine blk_drew ?_ | refine blk_alloc ?_ _)); refine blk_far ?_ NB198_262.out _; (with_reducible repeat (first | refine blk_drewN ?_ _ | refine blk_drew ?_ | refine blk_alloc ?_ _)); refine blk_far ?_ NB198_262.out _; (with_reducible repeat (first | refine blk_drewN ?_ _ | refine blk_drew ?_ | refine blk_alloc ?_ _)); refine blk_far ?_ NB198_262.out _; (with_reducible repeat (first | refine blk_drewN ?_ _ | refine blk_drew ?_ | refine blk_alloc ?_ _)); refine blk_far ?_ NB198_262.out _; (with_reducible repeat (first | refine blk_drewN ?_ _ | refine blk_drew ?_ | refine blk_alloc ?_ _)); refine blk_far ?_ NB198_262.out _; (with_reducible repeat (first | refine blk_drewN ?_ _ | refine blk_drew ?_ | refine blk_alloc ?_ _)); refine blk_far ?_ NB198_262.out _; (with_reducible repeat (first | refine blk_drewN ?_ _ | refine blk_drew ?_ | refine blk_alloc ?_ _)); refine blk_far ?_ NB198_262.out _; (with_reducible repeat (first | refine blk_drewN ?_ _ | refine blk_drew ?_ | refine blk_alloc ?_ _)); refine blk_far ?_ NB198_262.out _; (with_reducible repeat (first | refine blk_drewN ?_ _ | refine blk_drew ?_ | refine blk_alloc ?_ _)); refine blk_far ?_ NB198_262.out _; (with_reducible repeat (first | refine blk_drewN ?_ _ | refine blk_drew ?_ | refine blk_alloc ?_ _)); exact BK198.out) hb); have n22_ := Aside0.mk (blk_below (g := gb262) (o := .cells #[.int .i64 t242, .int .i64 t243, .int .i64 t244, .slice Ao51 t245.length co51, .slice Ao52 t248.length co52, .int .i64 t251, .int .i64 t252, .slice Ao53 t253.length co53, .slice Ao54 t256.length co54, .slice Ao55 t259.length co55] 55 (0, 0)) (by (with_reducible repeat (first | refine blk_drewN ?_ _ | refine blk_drew ?_ | refine blk_alloc ?_ _)); refine blk_put (cs := #[.int .i64 t242, .int .i64 t243, .int .i64 t244, .slice Ao51 t245.length co51, .slice Ao52 t248.length co52, .int .i64 t251, .int .i64 t252, .slice Ao53 t253.length co53, .slice Ao54 t256.length co54, .slice none 0 0]) ?_ 9 _ rfl; (with_reducible repeat (first | refine blk_drewN ?_ _ | refine blk_drew ?_ | refine blk_alloc ?_ _)); refine blk_put (cs := #[.int .i64 t242, .int .i64 t243, .int .i64 t244, .slice Ao51 t245.length co51, .slice Ao52 t248.length co52, .int .i64 t251, .int .i64 t252, .slice Ao53 t253.length co53, .slice none 0 0, .slice none 0 0]) ?_ 8 _ rfl; (with_reducible repeat (first | refine blk_drewN ?_ _ | refine blk_drew ?_ | refine blk_alloc ?_ _)); refine blk_put (cs := #[.int .i64 t242, .int .i64 t243, .int .i64 t244, .slice Ao51 t245.length co51, .slice Ao52 t248.length co52, .int .i64 t251, .int .i64 t252, .slice none 0 0, .slice none 0 0, .slice none 0 0]) ?_ 7 _ rfl; (with_reducible repeat (first | refine blk_drewN ?_ _ | refine blk_drew ?_ | refine blk_alloc ?_ _)); refine blk_put (cs := #[.int .i64 t242, .int .i64 t243, .int .i64 t244, .slice Ao51 t245.length co51, .slice Ao52 t248.length co52, .int .i64 t251, .int .i64 0, .slice none 0 0, .slice none 0 0, .slice none 0 0]) ?_ 6 _ rfl; (with_reducible repeat (first | refine blk_drewN ?_ _ | refine blk_drew ?_ | refine blk_alloc ?_ _)); refine blk_put (cs := #[.int .i64 t242, .int .i64 t243, .int .i64 t244, .slice Ao51 t245.length co51, .slice Ao52 t248.length co52, .int .i64 0, .int .i64 0, .slice none 0 0, .slice none 0 0, .slice none 0 0]) ?_ 5 _ rfl; (with_reducible repeat (first | refine blk_drewN ?_ _ | refine blk_drew ?_ | refine blk_alloc ?_ _)); refine blk_put (cs := #[.int .i64 t242, .int .i64 t243, .int .i64 t244, .slice Ao51 t245.length co51, .slice none 0 0, .int .i64 0, .int .i64 0, .slice none 0 0, .slice none 0 0, .slice none 0 0]) ?_ 4 _ rfl; (with_reducible repeat (first | refine blk_drewN ?_ _ | refine blk_drew ?_ | refine blk_alloc ?_ _)); refine blk_put (cs := #[.int .i64 t242, .int .i64 t243, .int .i64 t244, .slice none 0 0, .slice none 0 0, .int .i64 0, .int .i64 0, .slice none 0 0, .slice none 0 0, .slice none 0 0]) ?_ 3 _ rfl; (with_reducible repeat (first | refine blk_drewN ?_ _ | refine blk_drew ?_ | refine blk_alloc ?_ _)); refine blk_put (cs := #[.int .i64 t242, .int .i64 t243, .int .i64 0, .slice none 0 0, .slice none 0 0, .int .i64 0, .int .i64 0, .slice none 0 0, .slice none 0 0, .slice none 0 0]) ?_ 2 _ rfl; (with_reducible repeat (first | refine blk_drewN ?_ _ | refine blk_drew ?_ | refine blk_alloc ?_ _)); refine blk_put (cs := #[.int .i64 t242, .int .i64 0, .int .i64 0, .slice none 0 0, .slice none 0 0, .int .i64 0, .int .i64 0, .slice none 0 0, .slice none 0 0, .slice none 0 0]) ?_ 1 _ rfl; (with_reducible repeat (first | refine blk_drewN ?_ _ | refine blk_drew ?_ | refine blk_alloc ?_ _)); refine blk_put (cs := #[.int .i64 0, .int .i64 0, .int .i64 0, .slice none 0 0, .slice none 0 0, .int .i64 0, .int .i64 0, .slice none 0 0, .slice none 0 0, .slice none 0 0]) ?_ 0 _ rfl; (with_reducible repeat (first | refine blk_drewN ?_ _ | refine blk_drew ?_ | refine blk_alloc ?_ _)); exact BK262.out) hb); have n23_ := Aside0.mk (below_step (by repeat (first | (with_reducible first | exact HB.out | apply below_alloc | apply pw_below_drewN | apply below_drew1 | refine below_set ?_ GE197.out | refine below_set ?_ GE198.out | refine below_set ?_ GE262.out) | exact HB.out)) hb); clear HO206; clear HO209; clear HO214; clear HO217; clear HO220; clear HO226; clear HO229; clear HO234; clear HO237; clear HO240; clear HO247; clear HO250; clear HO255; clear HO258; clear HO261; clear BK197; clear BK198; clear BK262; clear HB; have HO206 := n0_; have HO209 := n1_; have HO214 := n2_; have HO217 := n3_; have HO220 := n4_; have HO226 := n5_; have HO229 := n6_; have HO234 := n7_; have HO237 := n8_; have HO240 := n9_; have HO247 := n10_; have HO250 := n11_; have HO255 := n12_; have HO258 := n13_; have HO261 := n14_; have HO268 := n15_; have HO271 := n16_; have HO276 := n17_; have HO279 := n18_; have HO282 := n19_; have BK197 := n20_; have BK198 := n21_; have BK262 := n22_; have HB := n23_; clear n0_ n1_ n2_ n3_ n4_ n5_ n6_ n7_ n8_ n9_ n10_ n11_ n12_ n13_ n14_ n15_ n16_ n17_ n18_ n19_ n20_ n21_ n22_ n23_; (try clear hb); (try clear hb2); (try clear hk); (try clear hi); (try clear ho0); (try clear ho1); (try clear ho2); (try clear ho3); (try clear ho4)) | ((with_reducible refine gate_dst (N := 8) rfl ?_); refine box_event ?hg (N := 8) ?hd (cs := #[.int .i64 0, .int .i64 0, .int .i64 0, .slice none 0 0, .slice none 0 0, .int .i64 0, .int .i64 0, .slice none 0 0, .slice none 0 0, .slice none 0 0]) (t := 55) ?hr ?_; (case hd => rfl); (case hg => rfl); (case hr => first | (go_simp; done) | (go_simp; rfl)); intro gb283 hg w58 hbox hb; have n0_ := Aside0.mk (Kd.R_below (Kd.R_mv HO206) hb); have n1_ := Aside0.mk (Kd.R_below (Kd.R_mv HO209) hb); have n2_ := Aside0.mk (Kd.R_below (Kd.R_mv HO214) hb); have n3_ := Aside0.mk (Kd.R_below (Kd.R_mv HO217) hb); have n4_ := Aside0.mk (Kd.S_below (Kd.S_mv HO220) hb); have n5_ := Aside0.mk (Kd.R_below (Kd.R_mv HO226) hb); have n6_ := Aside0.mk (Kd.R_below (Kd.R_mv HO229) hb); have n7_ := Aside0.mk (Kd.R_below (Kd.R_mv HO234) hb); have n8_ := Aside0.mk (Kd.R_below (Kd.R_mv HO237) hb); have n9_ := Aside0.mk (Kd.S_below (Kd.S_mv HO240) hb); have n10_ := Aside0.mk (Kd.R_below (Kd.R_mv HO247) hb); have n11_ := Aside0.mk (Kd.R_below (Kd.R_mv HO250) hb); have n12_ := Aside0.mk (Kd.R_below (Kd.R_mv HO255) hb); have n13_ := Aside0.mk (Kd.R_below (Kd.R_mv HO258) hb); have n14_ := Aside0.mk (Kd.S_below (Kd.S_mv HO261) hb); have n15_ := Aside0.mk (Kd.R_below (Kd.R_mv HO268) hb); have n16_ := Aside0.mk (Kd.R_below (Kd.R_mv HO271) hb); have n17_ := Aside0.mk (Kd.R_below (Kd.R_mv HO276) hb); have n18_ := Aside0.mk (Kd.R_below (Kd.R_mv HO279) hb); have n19_ := Aside0.mk (Kd.S_below (Kd.S_mv HO282) hb); have n20_ := Aside0.mk (blk_below (g := gb197) (o := .cells #[.int .i64 a0_0, .int .i64 a0_1, .int .i64 a0_2, .slice A0_3 l0_3.length c0_3, .slice A0_4 l0_4.length c0_4, .int .i64 a0_5, .int .i64 a0_6, .slice A0_7 l0_7.length c0_7, .slice A0_8 l0_8.length c0_8, .slice A0_9 l0_9.length c0_9] 50 (0, 0)) (blk_mv BK197) hb); have n21_ := Aside0.mk (blk_below (g := gb198) (o := .cells #[.int .i64 a1_0, .int .i64 a1_1, .int .i64 a1_2, .slice A1_3 l1_3.length c1_3, .slice A1_4 l1_4.length c1_4, .int .i64 a1_5, .int .i64 a1_6, .slice A1_7 l1_7.length c1_7, .slice A1_8 l1_8.length c1_8, .slice A1_9 l1_9.length c1_9] 50 (0, 0)) (blk_mv BK198) hb); have n22_ := Aside0.mk (blk_below (g := gb262) (o := .cells #[.int .i64 t242, .int .i64 t243, .int .i64 t244, .slice Ao51 t245.length co51, .slice Ao52 t248.length co52, .int .i64 t251, .int .i64 t252, .slice Ao53 t253.length co53, .slice Ao54 t256.length co54, .slice Ao55 t259.length co55] 55 (0, 0)) (blk_mv BK262) hb); have n23_ := Aside0.mk (below_step (by repeat (first | (with_reducible first | exact HB.out | apply below_alloc | apply pw_below_drewN | apply below_drew1 | refine below_set ?_ GE197.out | refine below_set ?_ GE198.out | refine below_set ?_ GE262.out) | exact HB.out)) hb); have n24_ := Aside0.mk (hbox); have n25_ := Aside0.mk ((by rw [hg]; exact (below_size (by repeat (first | (with_reducible first | exact HB.out | apply below_alloc | apply pw_below_drewN | apply below_drew1 | refine below_set ?_ GE197.out | refine below_set ?_ GE198.out | refine below_set ?_ GE262.out) | exact HB.out))) : w.heap.size ≤ gb283)); have n26_ := Aside0.mk ((by rw [hg]; exact (below_size (by repeat (first | (with_reducible first | exact HB.out | apply below_alloc | apply pw_below_drewN | apply below_drew1 | refine below_set ?_ GE197.out | refine below_set ?_ GE198.out | refine below_set ?_ GE262.out) | exact HB.out))) : w.heap.size ≤ gb283)); have n27_ := Aside0.mk ((by rw [hg]; exact Nat.ne_of_lt (blk_lt (g := gb197) (o := .cells #[.int .i64 a0_0, .int .i64 a0_1, .int .i64 a0_2, .slice A0_3 l0_3.length c0_3, .slice A0_4 l0_4.length c0_4, .int .i64 a0_5, .int .i64 a0_6, .slice A0_7 l0_7.length c0_7, .slice A0_8 l0_8.length c0_8, .slice A0_9 l0_9.length c0_9] 50 (0, 0)) (blk_mv BK197)) : gb197 ≠ gb283)); have n28_ := Aside0.mk ((by rw [hg]; exact Nat.ne_of_gt (blk_lt (g := gb197) (o := .cells #[.int .i64 a0_0, .int .i64 a0_1, .int .i64 a0_2, .slice A0_3 l0_3.length c0_3, .slice A0_4 l0_4.length c0_4, .int .i64 a0_5, .int .i64 a0_6, .slice A0_7 l0_7.length c0_7, .slice A0_8 l0_8.length c0_8, .slice A0_9 l0_9.length c0_9] 50 (0, 0)) (blk_mv BK197)) : gb283 ≠ gb197)); have n29_ := Aside0.mk ((by rw [hg]; exact Nat.ne_of_lt (blk_lt (g := gb198) (o := .cells #[.int .i64 a1_0, .int .i64 a1_1, .int .i64 a1_2, .slice A1_3 l1_3.length c1_3, .slice A1_4 l1_4.length c1_4, .int .i64 a1_5, .int .i64 a1_6, .slice A1_7 l1_7.length c1_7, .slice A1_8 l1_8.length c1_8, .slice A1_9 l1_9.length c1_9] 50 (0, 0)) (blk_mv BK198)) : gb198 ≠ gb283)); have n30_ := Aside0.mk ((by rw [hg]; exact Nat.ne_of_gt (blk_lt (g := gb198) (o := .cells #[.int .i64 a1_0, .int .i64 a1_1, .int .i64 a1_2, .slice A1_3 l1_3.length c1_3, .slice A1_4 l1_4.length c1_4, .int .i64 a1_5, .int .i64 a1_6, .slice A1_7 l1_7.length c1_7, .slice A1_8 l1_8.length c1_8, .slice A1_9 l1_9.length c1_9] 50 (0, 0)) (blk_mv BK198)) : gb283 ≠ gb198)); have n31_ := Aside0.mk ((by rw [hg]; exact Nat.ne_of_lt (blk_lt (g := gb262) (o := .cells #[.int .i64 t242, .int .i64 t243, .int .i64 t244, .slice Ao51 t245.length co51, .slice Ao52 t248.length co52, .int .i64 t251, .int .i64 t252, .slice Ao53 t253.length co53, .slice Ao54 t256.length co54, .slice Ao55 t259.length co55] 55 (0, 0)) (blk_mv BK262)) : gb262 ≠ gb283)); have n32_ := Aside0.mk ((by rw [hg]; exact Nat.ne_of_gt (blk_lt (g := gb262) (o := .cells #[.int .i64 t242, .int .i64 t243, .int .i64 t244, .slice Ao51 t245.length co51, .slice Ao52 t248.length co52, .int .i64 t251, .int .i64 t252, .slice Ao53 t253.length co53, .slice Ao54 t256.length co54, .slice Ao55 t259.length co55] 55 (0, 0)) (blk_mv BK262)) : gb283 ≠ gb262)); clear HO206; clear HO209; clear HO214; clear HO217; clear HO220; clear HO226; clear HO229; clear HO234; clear HO237; clear HO240; clear HO247; clear HO250; clear HO255; clear HO258; clear HO261; clear HO268; clear HO271; clear HO276; clear HO279; clear HO282; clear BK197; clear BK198; clear BK262; clear HB; have HO206 := n0_; have HO209 := n1_; have HO214 := n2_; have HO217 := n3_; have HO220 := n4_; have HO226 := n5_; have HO229 := n6_; have HO234 := n7_; have HO237 := n8_; have HO240 := n9_; have HO247 := n10_; have HO250 := n11_; have HO255 := n12_; have HO258 := n13_; have HO261 := n14_; have HO268 := n15_; have HO271 := n16_; have HO276 := n17_; have HO279 := n18_; have HO282 := n19_; have BK197 := n20_; have BK198 := n21_; have BK262 := n22_; have HB := n23_; have BK283 := n24_; have GW283 := n25_; have GE283 := n26_; have NB197_283 := n27_; have NB283_197 := n28_; have NB198_283 := n29_; have NB283_198 := n30_; have NB262_283 := n31_; have NB283_262 := n32_; clear n0_ n1_ n2_ n3_ n4_ n5_ n6_ n7_ n8_ n9_ n10_ n11_ n12_ n13_ n14_ n15_ n16_ n17_ n18_ n19_ n20_ n21_ n22_ n23_ n24_ n25_ n26_ n27_ n28_ n29_ n30_ n31_ n32_; clear hb hbox hg; have hnb59 := NB283_197.out; have hnc59 := NB197_283.out; have hnb60 := NB283_198.out; have hnc60 := NB198_283.out; have hnb61 := NB283_262.out; have hnc61 := NB262_283.out; have hcz62_0 : w58.cell? ⟨gb283, 0, none⟩ = some (.int .i64 0) := (blk_cell BK283.out 0).trans rfl; have hcz62_1 : w58.cell? ⟨gb283, 1, none⟩ = some (.int .i64 0) := (blk_cell BK283.out 1).trans rfl; have hcz62_2 : w58.cell? ⟨gb283, 2, none⟩ = some (.int .i64 0) := (blk_cell BK283.out 2).trans rfl; have hcz62_3 : w58.cell? ⟨gb283, 3, none⟩ = some (.slice none 0 0) := (blk_cell BK283.out 3).trans rfl; have hcz62_4 : w58.cell? ⟨gb283, 4, none⟩ = some (.slice none 0 0) := (blk_cell BK283.out 4).trans rfl; have hcz62_5 : w58.cell? ⟨gb283, 5, none⟩ = some (.int .i64 0) := (blk_cell BK283.out 5).trans rfl; have hcz62_6 : w58.cell? ⟨gb283, 6, none⟩ = some (.int .i64 0) := (blk_cell BK283.out 6).trans rfl; have hcz62_7 : w58.cell? ⟨gb283, 7, none⟩ = some (.slice none 0 0) := (blk_cell BK283.out 7).trans rfl; have hcz62_8 : w58.cell? ⟨gb283, 8, none⟩ = some (.slice none 0 0) := (blk_cell BK283.out 8).trans rfl; have hcz62_9 : w58.cell? ⟨gb283, 9, none⟩ = some (.slice none 0 0) := (blk_cell BK283.out 9).trans rfl; have hfz62_0 := blk_frozen BK283.out 0; have hfz62_1 := blk_frozen BK283.out 1; have hfz62_2 := blk_frozen BK283.out 2; have hfz62_3 := blk_frozen BK283.out 3; have hfz62_4 := blk_frozen BK283.out 4; have hfz62_5 := blk_frozen BK283.out 5; have hfz62_6 := blk_frozen BK283.out 6; have hfz62_7 := blk_frozen BK283.out 7; have hfz62_8 := blk_frozen BK283.out 8; have hfz62_9 := blk_frozen BK283.out 9; obtain ⟨Ao63, co63, eo63⟩ := Kd.R_slice HO268.out; subst eo63; obtain ⟨Ao64, co64, eo64⟩ := Kd.R_slice HO271.out; subst eo64; obtain ⟨Ao65, co65, eo65⟩ := Kd.R_slice HO276.out; subst eo65; obtain ⟨Ao66, co66, eo66⟩ := Kd.R_slice HO279.out; subst eo66; obtain ⟨Ao67, co67, eo67⟩ := Kd.S_slice HO282.out; subst eo67; have hcz68_0 : w58.cell? ⟨gb262, 0, none⟩ = some (.int .i64 t242) := (blk_cell BK262.out 0).trans rfl; have hcz68_1 : w58.cell? ⟨gb262, 1, none⟩ = some (.int .i64 t243) := (blk_cell BK262.out 1).trans rfl; have hcz68_2 : w58.cell? ⟨gb262, 2, none⟩ = some (.int .i64 t244) := (blk_cell BK262.out 2).trans rfl; have hcz68_3 : w58.cell? ⟨gb262, 3, none⟩ = some (.slice Ao51 t245.length co51) := (blk_cell BK262.out 3).trans rfl; have hcz68_4 : w58.cell? ⟨gb262, 4, none⟩ = some (.slice Ao52 t248.length co52) := (blk_cell BK262.out 4).trans rfl; have hcz68_5 : w58.cell? ⟨gb262, 5, none⟩ = some (.int .i64 t251) := (blk_cell BK262.out 5).trans rfl; have hcz68_6 : w58.cell? ⟨gb262, 6, none⟩ = some (.int .i64 t252) := (blk_cell BK262.out 6).trans rfl; have hcz68_7 : w58.cell? ⟨gb262, 7, none⟩ = some (.slice Ao53 t253.length co53) := (blk_cell BK262.out 7).trans rfl; have hcz68_8 : w58.cell? ⟨gb262, 8, none⟩ = some (.slice Ao54 t256.length co54) := (blk_cell BK262.out 8).trans rfl; have hcz68_9 : w58.cell? ⟨gb262, 9, none⟩ = some (.slice Ao55 t259.length co55) := (blk_cell BK262.out 9).trans rfl; have hfz68_0 := blk_frozen BK262.out 0; have hfz68_1 := blk_frozen BK262.out 1; have hfz68_2 := blk_frozen BK262.out 2; have hfz68_3 := blk_frozen BK262.out 3; have hfz68_4 := blk_frozen BK262.out 4; have hfz68_5 := blk_frozen BK262.out 5; have hfz68_6 := blk_frozen BK262.out 6; have hfz68_7 := blk_frozen BK262.out 7; have hfz68_8 := blk_frozen BK262.out 8; have hfz68_9 := blk_frozen BK262.out 9) | ((with_reducible refine gate_callee (f := 29) rfl ?_); refine goesL_ (some 31) rfl rfl Try.func29 (by kernel_rfl) rfl #[.agg #[.int .i64 t242, .int .i64 t243, .int .i64 t244, .slice Ao51 t245.length co51, .slice Ao52 t248.length co52, .int .i64 t251, .int .i64 t252, .slice Ao53 t253.length co53, .slice Ao54 t256.length co54, .slice Ao55 t259.length co55], .agg #[.int .i64 t263, .int .i64 t264, .int .i64 t265, .slice Ao63 t266.length co63, .slice Ao64 t269.length co64, .int .i64 t272, .int .i64 t273, .slice Ao65 t274.length co65, .slice Ao66 t277.length co66, .slice Ao67 t280.length co67]] rfl (by (try simp only [List.map_toArray, List.map_cons, List.map_nil]); first | done | rfl | (simp only [List.length_drop, List.length_take]; rfl)) ?_; (with_reducible refine (impl_HeadSame.calls k t242 t243 t244 _ _ t245 _ _ t248 t251 t252 _ _ t253 _ _ t256 _ _ t259 t263 t264 t265 _ _ t266 _ _ t269 t272 t273 _ _ t274 _ _ t277 _ _ t280 t284 _ ?side1 ?side2 ?side3 ?side4 ?side5 ?side6 ?side7 ?side8 ?side9 ?side10 ?side11 ?side12 ?side13 ?side14 ?side15 ?side16 ?side17 ?side18 ?side19 ?side20 A22.out).mono ?_); (case side1 => refine (Kd.R_reads' (e := 5) (base := w.heap.size) (ok := fun k_ => (((((((((((((some k_ ≠ (.slice Ao52 t248.length co52 : Value).ownBlock ∧ (some k_ ≠ (.slice Ao53 t253.length co53 : Value).ownBlock ∧ some k_ ≠ (.slice Ao54 t256.length co54 : Value).ownBlock)) ∧ some k_ ≠ (.slice Ao33 t204.length co33 : Value).ownBlock) ∧ some k_ ≠ (.slice Ao34 t207.length co34 : Value).ownBlock) ∧ some k_ ≠ (.slice Ao35 t212.length co35 : Value).ownBlock) ∧ some k_ ≠ (.slice Ao36 t215.length co36 : Value).ownBlock) ∧ some k_ ≠ (.slice Ao38 t224.length co38 : Value).ownBlock) ∧ some k_ ≠ (.slice Ao39 t227.length co39 : Value).ownBlock) ∧ some k_ ≠ (.slice Ao40 t232.length co40 : Value).ownBlock) ∧ some k_ ≠ (.slice Ao41 t235.length co41 : Value).ownBlock) ∧ some k_ ≠ (.slice Ao63 t266.length co63 : Value).ownBlock) ∧ some k_ ≠ (.slice Ao64 t269.length co64 : Value).ownBlock) ∧ some k_ ≠ (.slice Ao65 t274.length co65 : Value).ownBlock) ∧ some k_ ≠ (.slice Ao66 t277.length co66 : Value).ownBlock)) (n := t245.length) (c := co51) ?_).2.2; exact (by (with_reducible repeat (first | apply Kd.R_alloc | apply Kd.R_drewN | apply Kd.R_drew)); exact (Kd.R_mono (Kd.R_fars (Kd.R_types HO247.out BK283.out (by decide)) (fun _ hk => hk.2)) (fun _ h_ => h_.1)))); (case side2 => exact (Kd.R_reads' HO247.out).2.1); (case side3 => refine (Kd.R_reads' (e := 5) (base := w.heap.size) (ok := fun k_ => (((((((((((((some k_ ≠ (.slice Ao51 t245.length co51 : Value).ownBlock ∧ (some k_ ≠ (.slice Ao53 t253.length co53 : Value).ownBlock ∧ some k_ ≠ (.slice Ao54 t256.length co54 : Value).ownBlock)) ∧ some k_ ≠ (.slice Ao33 t204.length co33 : Value).ownBlock) ∧ some k_ ≠ (.slice Ao34 t207.length co34 : Value).ownBlock) ∧ some k_ ≠ (.slice Ao35 t212.length co35 : Value).ownBlock) ∧ some k_ ≠ (.slice Ao36 t215.length co36 : Value).ownBlock) ∧ some k_ ≠ (.slice Ao38 t224.length co38 : Value).ownBlock) ∧ some k_ ≠ (.slice Ao39 t227.length co39 : Value).ownBlock) ∧ some k_ ≠ (.slice Ao40 t232.length co40 : Value).ownBlock) ∧ some k_ ≠ (.slice Ao41 t235.length co41 : Value).ownBlock) ∧ some k_ ≠ (.slice Ao63 t266.length co63 : Value).ownBlock) ∧ some k_ ≠ (.slice Ao64 t269.length co64 : Value).ownBlock) ∧ some k_ ≠ (.slice Ao65 t274.length co65 : Value).ownBlock) ∧ some k_ ≠ (.slice Ao66 t277.length co66 : Value).ownBlock)) (n := t248.length) (c := co52) ?_).2.2; exact (by (with_reducible repeat (first | apply Kd.R_alloc | apply Kd.R_drewN | apply Kd.R_drew)); exact (Kd.R_mono (Kd.R_fars (Kd.R_types HO250.out BK283.out (by decide)) (fun _ hk => hk.2)) (fun _ h_ => h_.1)))); (case side4 => exact (Kd.R_reads' HO250.out).2.1); (case side5 => refine (Kd.R_reads' (e := 5) (base := w.heap.size) (ok := fun k_ => (((((((((((((some k_ ≠ (.slice Ao51 t245.length co51 : Value).ownBlock ∧ (some k_ ≠ (.slice Ao52 t248.length co52 : Value).ownBlock ∧ some k_ ≠ (.slice Ao54 t256.length co54 : Value).ownBlock)) ∧ some k_ ≠ (.slice Ao33 t204.length co33 : Value).ownBlock) ∧ some k_ ≠ (.slice Ao34 t207.length co34 : Value).ownBlock) ∧ some k_ ≠ (.slice Ao35 t212.length co35 : Value).ownBlock) ∧ some k_ ≠ (.slice Ao36 t215.length co36 : Value).ownBlock) ∧ some k_ ≠ (.slice Ao38 t224.length co38 : Value).ownBlock) ∧ some k_ ≠ (.slice Ao39 t227.length co39 : Value).ownBlock) ∧ some k_ ≠ (.slice Ao40 t232.length co40 : Value).ownBlock) ∧ some k_ ≠ (.slice Ao41 t235.length co41 : Value).ownBlock) ∧ some k_ ≠ (.slice Ao63 t266.length co63 : Value).ownBlock) ∧ some k_ ≠ (.slice Ao64 t269.length co64 : Value).ownBlock) ∧ some k_ ≠ (.slice Ao65 t274.length co65 : Value).ownBlock) ∧ some k_ ≠ (.slice Ao66 t277.length co66 : Value).ownBlock)) (n := t253.length) (c := co53) ?_).2.2; exact (by (with_reducible repeat (first | apply Kd.R_alloc | apply Kd.R_drewN | apply Kd.R_drew)); exact (Kd.R_mono (Kd.R_fars (Kd.R_types HO255.out BK283.out (by decide)) (fun _ hk => hk.2)) (fun _ h_ => h_.1)))); (case side6 => exact (Kd.R_reads' HO255.out).2.1); (case side7 => refine (Kd.R_reads' (e := 5) (base := w.heap.size) (ok := fun k_ => (((((((((((((some k_ ≠ (.slice Ao51 t245.length co51 : Value).ownBlock ∧ (some k_ ≠ (.slice Ao52 t248.length co52 : Value).ownBlock ∧ some k_ ≠ (.slice Ao53 t253.length co53 : Value).ownBlock)) ∧ some k_ ≠ (.slice Ao33 t204.length co33 : Value).ownBlock) ∧ some k_ ≠ (.slice Ao34 t207.length co34 : Value).ownBlock) ∧ some k_ ≠ (.slice Ao35 t212.length co35 : Value).ownBlock) ∧ some k_ ≠ (.slice Ao36 t215.length co36 : Value).ownBlock) ∧ some k_ ≠ (.slice Ao38 t224.length co38 : Value).ownBlock) ∧ some k_ ≠ (.slice Ao39 t227.length co39 : Value).ownBlock) ∧ some k_ ≠ (.slice Ao40 t232.length co40 : Value).ownBlock) ∧ some k_ ≠ (.slice Ao41 t235.length co41 : Value).ownBlock) ∧ some k_ ≠ (.slice Ao63 t266.length co63 : Value).ownBlock) ∧ some k_ ≠ (.slice Ao64 t269.length co64 : Value).ownBlock) ∧ some k_ ≠ (.slice Ao65 t274.length co65 : Value).ownBlock) ∧ some k_ ≠ (.slice Ao66 t277.length co66 : Value).ownBlock)) (n := t256.length) (c := co54) ?_).2.2; exact (by (with_reducible repeat (first | apply Kd.R_alloc | apply Kd.R_drewN | apply Kd.R_drew)); exact (Kd.R_mono (Kd.R_fars (Kd.R_types HO258.out BK283.out (by decide)) (fun _ hk => hk.2)) (fun _ h_ => h_.1)))); (case side8 => exact (Kd.R_reads' HO258.out).2.1); (case side9 => refine (Kd.S_reads' (e := 37) (base := w.heap.size) (ok := fun k_ => ((((((((((((((((some k_ ≠ (.slice Ao51 t245.length co51 : Value).ownBlock ∧ (some k_ ≠ (.slice Ao52 t248.length co52 : Value).ownBlock ∧ (some k_ ≠ (.slice Ao53 t253.length co53 : Value).ownBlock ∧ some k_ ≠ (.slice Ao54 t256.length co54 : Value).ownBlock))) ∧ some k_ ≠ (.slice Ao33 t204.length co33 : Value).ownBlock) ∧ some k_ ≠ (.slice Ao34 t207.length co34 : Value).ownBlock) ∧ some k_ ≠ (.slice Ao35 t212.length co35 : Value).ownBlock) ∧ some k_ ≠ (.slice Ao36 t215.length co36 : Value).ownBlock) ∧ some k_ ≠ (.slice Ao37 t218.length co37 : Value).ownBlock) ∧ some k_ ≠ (.slice Ao38 t224.length co38 : Value).ownBlock) ∧ some k_ ≠ (.slice Ao39 t227.length co39 : Value).ownBlock) ∧ some k_ ≠ (.slice Ao40 t232.length co40 : Value).ownBlock) ∧ some k_ ≠ (.slice Ao41 t235.length co41 : Value).ownBlock) ∧ some k_ ≠ (.slice Ao42 t238.length co42 : Value).ownBlock) ∧ some k_ ≠ (.slice Ao63 t266.length co63 : Value).ownBlock) ∧ some k_ ≠ (.slice Ao64 t269.length co64 : Value).ownBlock) ∧ some k_ ≠ (.slice Ao65 t274.length co65 : Value).ownBlock) ∧ some k_ ≠ (.slice Ao66 t277.length co66 : Value).ownBlock) ∧ some k_ ≠ (.slice Ao67 t280.length co67 : Value).ownBlock)) (n := t259.length) (c := co55) ?_).2.2; exact (by (with_reducible repeat (first | apply Kd.S_alloc | apply Kd.S_drewN | apply Kd.S_drew)); exact (Kd.S_mono (Kd.S_fars (Kd.S_types HO261.out BK283.out (by decide)) (fun _ hk => hk.2)) (fun _ h_ => h_.1)))); (case side10 => exact (Kd.S_reads' HO261.out).2.1); (case side11 => refine (Kd.R_reads' (e := 5) (base := w.heap.size) (ok := fun k_ => (((((((((((((some k_ ≠ (.slice Ao64 t269.length co64 : Value).ownBlock ∧ (some k_ ≠ (.slice Ao65 t274.length co65 : Value).ownBlock ∧ some k_ ≠ (.slice Ao66 t277.length co66 : Value).ownBlock)) ∧ some k_ ≠ (.slice Ao33 t204.length co33 : Value).ownBlock) ∧ some k_ ≠ (.slice Ao34 t207.length co34 : Value).ownBlock) ∧ some k_ ≠ (.slice Ao35 t212.length co35 : Value).ownBlock) ∧ some k_ ≠ (.slice Ao36 t215.length co36 : Value).ownBlock) ∧ some k_ ≠ (.slice Ao38 t224.length co38 : Value).ownBlock) ∧ some k_ ≠ (.slice Ao39 t227.length co39 : Value).ownBlock) ∧ some k_ ≠ (.slice Ao40 t232.length co40 : Value).ownBlock) ∧ some k_ ≠ (.slice Ao41 t235.length co41 : Value).ownBlock) ∧ some k_ ≠ (.slice Ao51 t245.length co51 : Value).ownBlock) ∧ some k_ ≠ (.slice Ao52 t248.length co52 : Value).ownBlock) ∧ some k_ ≠ (.slice Ao53 t253.length co53 : Value).ownBlock) ∧ some k_ ≠ (.slice Ao54 t256.length co54 : Value).ownBlock)) (n := t266.length) (c := co63) ?_).2.2; exact (by (with_reducible repeat (first | apply Kd.R_alloc | apply Kd.R_drewN | apply Kd.R_drew)); exact (Kd.R_mono (Kd.R_fars (Kd.R_types HO268.out BK283.out (by decide)) (fun _ hk => hk.2)) (fun _ h_ => h_.1)))); (case side12 => exact (Kd.R_reads' HO268.out).2.1); (case side13 => refine (Kd.R_reads' (e := 5) (base := w.heap.size) (ok := fun k_ => (((((((((((((some k_ ≠ (.slice Ao63 t266.length co63 : Value).ownBlock ∧ (some k_ ≠ (.slice Ao65 t274.length co65 : Value).ownBlock ∧ some k_ ≠ (.slice Ao66 t277.length co66 : Value).ownBlock)) ∧ some k_ ≠ (.slice Ao33 t204.length co33 : Value).ownBlock) ∧ some k_ ≠ (.slice Ao34 t207.length co34 : Value).ownBlock) ∧ some k_ ≠ (.slice Ao35 t212.length co35 : Value).ownBlock) ∧ some k_ ≠ (.slice Ao36 t215.length co36 : Value).ownBlock) ∧ some k_ ≠ (.slice Ao38 t224.length co38 : Value).ownBlock) ∧ some k_ ≠ (.slice Ao39 t227.length co39 : Value).ownBlock) ∧ some k_ ≠ (.slice Ao40 t232.length co40 : Value).ownBlock) ∧ some k_ ≠ (.slice Ao41 t235.length co41 : Value).ownBlock) ∧ some k_ ≠ (.slice Ao51 t245.length co51 : Value).ownBlock) ∧ some k_ ≠ (.slice Ao52 t248.length co52 : Value).ownBlock) ∧ some k_ ≠ (.slice Ao53 t253.length co53 : Value).ownBlock) ∧ some k_ ≠ (.slice Ao54 t256.length co54 : Value).ownBlock)) (n := t269.length) (c := co64) ?_).2.2; exact (by (with_reducible repeat (first | apply Kd.R_alloc | apply Kd.R_drewN | apply Kd.R_drew)); exact (Kd.R_mono (Kd.R_fars (Kd.R_types HO271.out BK283.out (by decide)) (fun _ hk => hk.2)) (fun _ h_ => h_.1)))); (case side14 => exact (Kd.R_reads' HO271.out).2.1); (case side15 => refine (Kd.R_reads' (e := 5) (base := w.heap.size) (ok := fun k_ => (((((((((((((some k_ ≠ (.slice Ao63 t266.length co63 : Value).ownBlock ∧ (some k_ ≠ (.slice Ao64 t269.length co64 : Value).ownBlock ∧ some k_ ≠ (.slice Ao66 t277.length co66 : Value).ownBlock)) ∧ some k_ ≠ (.slice Ao33 t204.length co33 : Value).ownBlock) ∧ some k_ ≠ (.slice Ao34 t207.length co34 : Value).ownBlock) ∧ some k_ ≠ (.slice Ao35 t212.length co35 : Value).ownBlock) ∧ some k_ ≠ (.slice Ao36 t215.length co36 : Value).ownBlock) ∧ some k_ ≠ (.slice Ao38 t224.length co38 : Value).ownBlock) ∧ some k_ ≠ (.slice Ao39 t227.length co39 : Value).ownBlock) ∧ some k_ ≠ (.slice Ao40 t232.length co40 : Value).ownBlock) ∧ some k_ ≠ (.slice Ao41 t235.length co41 : Value).ownBlock) ∧ some k_ ≠ (.slice Ao51 t245.length co51 : Value).ownBlock) ∧ some k_ ≠ (.slice Ao52 t248.length co52 : Value).ownBlock) ∧ some k_ ≠ (.slice Ao53 t253.length co53 : Value).ownBlock) ∧ some k_ ≠ (.slice Ao54 t256.length co54 : Value).ownBlock)) (n := t274.length) (c := co65) ?_).2.2; exact (by (with_reducible repeat (first | apply Kd.R_alloc | apply Kd.R_drewN | apply Kd.R_drew)); exact (Kd.R_mono (Kd.R_fars (Kd.R_types HO276.out BK283.out (by decide)) (fun _ hk => hk.2)) (fun _ h_ => h_.1)))); (case side16 => exact (Kd.R_reads' HO276.out).2.1); (case side17 => refine (Kd.R_reads' (e := 5) (base := w.heap.size) (ok := fun k_ => (((((((((((((some k_ ≠ (.slice Ao63 t266.length co63 : Value).ownBlock ∧ (some k_ ≠ (.slice Ao64 t269.length co64 : Value).ownBlock ∧ some k_ ≠ (.slice Ao65 t274.length co65 : Value).ownBlock)) ∧ some k_ ≠ (.slice Ao33 t204.length co33 : Value).ownBlock) ∧ some k_ ≠ (.slice Ao34 t207.length co34 : Value).ownBlock) ∧ some k_ ≠ (.slice Ao35 t212.length co35 : Value).ownBlock) ∧ some k_ ≠ (.slice Ao36 t215.length co36 : Value).ownBlock) ∧ some k_ ≠ (.slice Ao38 t224.length co38 : Value).ownBlock) ∧ some k_ ≠ (.slice Ao39 t227.length co39 : Value).ownBlock) ∧ some k_ ≠ (.slice Ao40 t232.length co40 : Value).ownBlock) ∧ some k_ ≠ (.slice Ao41 t235.length co41 : Value).ownBlock) ∧ some k_ ≠ (.slice Ao51 t245.length co51 : Value).ownBlock) ∧ some k_ ≠ (.slice Ao52 t248.length co52 : Value).ownBlock) ∧ some k_ ≠ (.slice Ao53 t253.length co53 : Value).ownBlock) ∧ some k_ ≠ (.slice Ao54 t256.length co54 : Value).ownBlock)) (n := t277.length) (c := co66) ?_).2.2; exact (by (with_reducible repeat (first | apply Kd.R_alloc | apply Kd.R_drewN | apply Kd.R_drew)); exact (Kd.R_mono (Kd.R_fars (Kd.R_types HO279.out BK283.out (by decide)) (fun _ hk => hk.2)) (fun _ h_ => h_.1)))); (case side18 => exact (Kd.R_reads' HO279.out).2.1); (case side19 => refine (Kd.S_reads' (e := 37) (base := w.heap.size) (ok := fun k_ => ((((((((((((((((some k_ ≠ (.slice Ao63 t266.length co63 : Value).ownBlock ∧ (some k_ ≠ (.slice Ao64 t269.length co64 : Value).ownBlock ∧ (some k_ ≠ (.slice Ao65 t274.length co65 : Value).ownBlock ∧ some k_ ≠ (.slice Ao66 t277.length co66 : Value).ownBlock))) ∧ some k_ ≠ (.slice Ao33 t204.length co33 : Value).ownBlock) ∧ some k_ ≠ (.slice Ao34 t207.length co34 : Value).ownBlock) ∧ some k_ ≠ (.slice Ao35 t212.length co35 : Value).ownBlock) ∧ some k_ ≠ (.slice Ao36 t215.length co36 : Value).ownBlock) ∧ some k_ ≠ (.slice Ao37 t218.length co37 : Value).ownBlock) ∧ some k_ ≠ (.slice Ao38 t224.length co38 : Value).ownBlock) ∧ some k_ ≠ (.slice Ao39 t227.length co39 : Value).ownBlock) ∧ some k_ ≠ (.slice Ao40 t232.length co40 : Value).ownBlock) ∧ some k_ ≠ (.slice Ao41 t235.length co41 : Value).ownBlock) ∧ some k_ ≠ (.slice Ao42 t238.length co42 : Value).ownBlock) ∧ some k_ ≠ (.slice Ao51 t245.length co51 : Value).ownBlock) ∧ some k_ ≠ (.slice Ao52 t248.length co52 : Value).ownBlock) ∧ some k_ ≠ (.slice Ao53 t253.length co53 : Value).ownBlock) ∧ some k_ ≠ (.slice Ao54 t256.length co54 : Value).ownBlock) ∧ some k_ ≠ (.slice Ao55 t259.length co55 : Value).ownBlock)) (n := t280.length) (c := co67) ?_).2.2; exact (by (with_reducible repeat (first | apply Kd.S_alloc | apply Kd.S_drewN | apply Kd.S_drew)); exact (Kd.S_mono (Kd.S_fars (Kd.S_types HO282.out BK283.out (by decide)) (fun _ hk => hk.2)) (fun _ h_ => h_.1)))); (case side20 => exact (Kd.S_reads' HO282.out).2.1); rintro e w69 ⟨rfl, hb⟩; refine ⟨_, rfl, ?_⟩; have n0_ := Aside0.mk (Kd.R_below (by (with_reducible repeat (first | apply Kd.R_alloc | apply Kd.R_drewN | apply Kd.R_drew)); exact (Kd.R_mono (Kd.R_fars (Kd.R_types HO206.out BK283.out (by decide)) (fun _ hk => hk.2)) (fun _ h_ => h_.1))) hb); have n1_ := Aside0.mk (Kd.R_below (by (with_reducible repeat (first | apply Kd.R_alloc | apply Kd.R_drewN | apply Kd.R_drew)); exact (Kd.R_mono (Kd.R_fars (Kd.R_types HO209.out BK283.out (by decide)) (fun _ hk => hk.2)) (fun _ h_ => h_.1))) hb); have n2_ := Aside0.mk (Kd.R_below (by (with_reducible repeat (first | apply Kd.R_alloc | apply Kd.R_drewN | apply Kd.R_drew)); exact (Kd.R_mono (Kd.R_fars (Kd.R_types HO214.out BK283.out (by decide)) (fun _ hk => hk.2)) (fun _ h_ => h_.1))) hb); have n3_ := Aside0.mk (Kd.R_below (by (with_reducible repeat (first | apply Kd.R_alloc | apply Kd.R_drewN | apply Kd.R_drew)); exact (Kd.R_mono (Kd.R_fars (Kd.R_types HO217.out BK283.out (by decide)) (fun _ hk => hk.2)) (fun _ h_ => h_.1))) hb); have n4_ := Aside0.mk (Kd.S_below (by (with_reducible repeat (first | apply Kd.S_alloc | apply Kd.S_drewN | apply Kd.S_drew)); exact (Kd.S_mono (Kd.S_fars (Kd.S_types HO220.out BK283.out (by decide)) (fun _ hk => hk.2)) (fun _ h_ => h_.1))) hb); have n5_ := Aside0.mk (Kd.R_below (by (with_reducible repeat (first | apply Kd.R_alloc | apply Kd.R_drewN | apply Kd.R_drew)); exact (Kd.R_mono (Kd.R_fars (Kd.R_types HO226.out BK283.out (by decide)) (fun _ hk => hk.2)) (fun _ h_ => h_.1))) hb); have n6_ := Aside0.mk (Kd.R_below (by (with_reducible repeat (first | apply Kd.R_alloc | apply Kd.R_drewN | apply Kd.R_drew)); exact (Kd.R_mono (Kd.R_fars (Kd.R_types HO229.out BK283.out (by decide)) (fun _ hk => hk.2)) (fun _ h_ => h_.1))) hb); have n7_ := Aside0.mk (Kd.R_below (by (with_reducible repeat (first | apply Kd.R_alloc | apply Kd.R_drewN | apply Kd.R_drew)); exact (Kd.R_mono (Kd.R_fars (Kd.R_types HO234.out BK283.out (by decide)) (fun _ hk => hk.2)) (fun _ h_ => h_.1))) hb); have n8_ := Aside0.mk (Kd.R_below (by (with_reducible repeat (first | apply Kd.R_alloc | apply Kd.R_drewN | apply Kd.R_drew)); exact (Kd.R_mono (Kd.R_fars (Kd.R_types HO237.out BK283.out (by decide)) (fun _ hk => hk.2)) (fun _ h_ => h_.1))) hb); have n9_ := Aside0.mk (Kd.S_below (by (with_reducible repeat (first | apply Kd.S_alloc | apply Kd.S_drewN | apply Kd.S_drew)); exact (Kd.S_mono (Kd.S_fars (Kd.S_types HO240.out BK283.out (by decide)) (fun _ hk => hk.2)) (fun _ h_ => h_.1))) hb); have n10_ := Aside0.mk (Kd.R_below (by (with_reducible repeat (first | apply Kd.R_alloc | apply Kd.R_drewN | apply Kd.R_drew)); exact (Kd.R_mono (Kd.R_fars (Kd.R_types HO247.out BK283.out (by decide)) (fun _ hk => hk.2)) (fun _ h_ => h_.1))) hb); have n11_ := Aside0.mk (Kd.R_below (by (with_reducible repeat (first | apply Kd.R_alloc | apply Kd.R_drewN | apply Kd.R_drew)); exact (Kd.R_mono (Kd.R_fars (Kd.R_types HO250.out BK283.out (by decide)) (fun _ hk => hk.2)) (fun _ h_ => h_.1))) hb); have n12_ := Aside0.mk (Kd.R_below (by (with_reducible repeat (first | apply Kd.R_alloc | apply Kd.R_drewN | apply Kd.R_drew)); exact (Kd.R_mono (Kd.R_fars (Kd.R_types HO255.out BK283.out (by decide)) (fun _ hk => hk.2)) (fun _ h_ => h_.1))) hb); have n13_ := Aside0.mk (Kd.R_below (by (with_reducible repeat (first | apply Kd.R_alloc | apply Kd.R_drewN | apply Kd.R_drew)); exact (Kd.R_mono (Kd.R_fars (Kd.R_types HO258.out BK283.out (by decide)) (fun _ hk => hk.2)) (fun _ h_ => h_.1))) hb); have n14_ := Aside0.mk (Kd.S_below (by (with_reducible repeat (first | apply Kd.S_alloc | apply Kd.S_drewN | apply Kd.S_drew)); exact (Kd.S_mono (Kd.S_fars (Kd.S_types HO261.out BK283.out (by decide)) (fun _ hk => hk.2)) (fun _ h_ => h_.1))) hb); have n15_ := Aside0.mk (Kd.R_below (by (with_reducible repeat (first | apply Kd.R_alloc | apply Kd.R_drewN | apply Kd.R_drew)); exact (Kd.R_mono (Kd.R_fars (Kd.R_types HO268.out BK283.out (by decide)) (fun _ hk => hk.2)) (fun _ h_ => h_.1))) hb); have n16_ := Aside0.mk (Kd.R_below (by (with_reducible repeat (first | apply Kd.R_alloc | apply Kd.R_drewN | apply Kd.R_drew)); exact (Kd.R_mono (Kd.R_fars (Kd.R_types HO271.out BK283.out (by decide)) (fun _ hk => hk.2)) (fun _ h_ => h_.1))) hb); have n17_ := Aside0.mk (Kd.R_below (by (with_reducible repeat (first | apply Kd.R_alloc | apply Kd.R_drewN | apply Kd.R_drew)); exact (Kd.R_mono (Kd.R_fars (Kd.R_types HO276.out BK283.out (by decide)) (fun _ hk => hk.2)) (fun _ h_ => h_.1))) hb); have n18_ := Aside0.mk (Kd.R_below (by (with_reducible repeat (first | apply Kd.R_alloc | apply Kd.R_drewN | apply Kd.R_drew)); exact (Kd.R_mono (Kd.R_fars (Kd.R_types HO279.out BK283.out (by decide)) (fun _ hk => hk.2)) (fun _ h_ => h_.1))) hb); have n19_ := Aside0.mk (Kd.S_below (by (with_reducible repeat (first | apply Kd.S_alloc | apply Kd.S_drewN | apply Kd.S_drew)); exact (Kd.S_mono (Kd.S_fars (Kd.S_types HO282.out BK283.out (by decide)) (fun _ hk => hk.2)) (fun _ h_ => h_.1))) hb); have n20_ := Aside0.mk (blk_below (g := gb197) (o := .cells #[.int .i64 a0_0, .int .i64 a0_1, .int .i64 a0_2, .slice A0_3 l0_3.length c0_3, .slice A0_4 l0_4.length c0_4, .int .i64 a0_5, .int .i64 a0_6, .slice A0_7 l0_7.length c0_7, .slice A0_8 l0_8.length c0_8, .slice A0_9 l0_9.length c0_9] 50 (0, 0)) (by (with_reducible repeat (first | refine blk_drewN ?_ _ | refine blk_drew ?_ | refine blk_alloc ?_ _)); refine blk_far ?_ NB197_283.out _; (with_reducible repeat (first | refine blk_drewN ?_ _ | refine blk_drew ?_ | refine blk_alloc ?_ _)); refine blk_far ?_ NB197_283.out _; (with_reducible repeat (first | refine blk_drewN ?_ _ | refine blk_drew ?_ | refine blk_alloc ?_ _)); refine blk_far ?_ NB197_283.out _; (with_reducible repeat (first | refine blk_drewN ?_ _ | refine blk_drew ?_ | refine blk_alloc ?_ _)); refine blk_far ?_ NB197_283.out _; (with_reducible repeat (first | refine blk_drewN ?_ _ | refine blk_drew ?_ | refine blk_alloc ?_ _)); refine blk_far ?_ NB197_283.out _; (with_reducible repeat (first | refine blk_drewN ?_ _ | refine blk_drew ?_ | refine blk_alloc ?_ _)); refine blk_far ?_ NB197_283.out _; (with_reducible repeat (first | refine blk_drewN ?_ _ | refine blk_drew ?_ | refine blk_alloc ?_ _)); refine blk_far ?_ NB197_283.out _; (with_reducible repeat (first | refine blk_drewN ?_ _ | refine blk_drew ?_ | refine blk_alloc ?_ _)); refine blk_far ?_ NB197_283.out _; (with_reducible repeat (first | refine blk_drewN ?_ _ | refine blk_drew ?_ | refine blk_alloc ?_ _)); refine blk_far ?_ NB197_283.out _; (with_reducible repeat (first | refine blk_drewN ?_ _ | refine blk_drew ?_ | refine blk_alloc ?_ _)); refine blk_far ?_ NB197_283.out _; (with_reducible repeat (first | refine blk_drewN ?_ _ | refine blk_drew ?_ | refine blk_alloc ?_ _)); exact BK197.out) hb); have n21_ := Aside0.mk (blk_below (g := gb198) (o := .cells #[.int .i64 a1_0, .int .i64 a1_1, .int .i64 a1_2, .slice A1_3 l1_3.length c1_3, .slice A1_4 l1_4.length c1_4, .int .i64 a1_5, .int .i64 a1_6, .slice A1_7 l1_7.length c1_7, .slice A1_8 l1_8.length c1_8, .slice A1_9 l1_9.length c1_9] 50 (0, 0)) (by (with_reducible repeat (first | refine blk_drewN ?_ _ | refine blk_drew ?_ | refine blk_alloc ?_ _)); refine blk_far ?_ NB198_283.out _; (with_reducible repeat (first | refine blk_drewN ?_ _ | refine blk_drew ?_ | refine blk_alloc ?_ _)); refine blk_far ?_ NB198_283.out _; (with_reducible repeat (first | refine blk_drewN ?_ _ | refine blk_drew ?_ | refine blk_alloc ?_ _)); refine blk_far ?_ NB198_283.out _; (with_reducible repeat (first | refine blk_drewN ?_ _ | refine blk_drew ?_ | refine blk_alloc ?_ _)); refine blk_far ?_ NB198_283.out _; (with_reducible repeat (first | refine blk_drewN ?_ _ | refine blk_drew ?_ | refine blk_alloc ?_ _)); refine blk_far ?_ NB198_283.out _; (with_reducible repeat (first | refine blk_drewN ?_ _ | refine blk_drew ?_ | refine blk_alloc ?_ _)); refine blk_far ?_ NB198_283.out _; (with_reducible repeat (first | refine blk_drewN ?_ _ | refine blk_drew ?_ | refine blk_alloc ?_ _)); refine blk_far ?_ NB198_283.out _; (with_reducible repeat (first | refine blk_drewN ?_ _ | refine blk_drew ?_ | refine blk_alloc ?_ _)); refine blk_far ?_ NB198_283.out _; (with_reducible repeat (first | refine blk_drewN ?_ _ | refine blk_drew ?_ | refine blk_alloc ?_ _)); refine blk_far ?_ NB198_283.out _; (with_reducible repeat (first | refine blk_drewN ?_ _ | refine blk_drew ?_ | refine blk_alloc ?_ _)); refine blk_far ?_ NB198_283.out _; (with_reducible repeat (first | refine blk_drewN ?_ _ | refine blk_drew ?_ | refine blk_alloc ?_ _)); exact BK198.out) hb); have n22_ := Aside0.mk (blk_below (g := gb262) (o := .cells #[.int .i64 t242, .int .i64 t243, .int .i64 t244, .slice Ao51 t245.length co51, .slice Ao52 t248.length co52, .int .i64 t251, .int .i64 t252, .slice Ao53 t253.length co53, .slice Ao54 t256.length co54, .slice Ao55 t259.length co55] 55 (0, 0)) (by (with_reducible repeat (first | refine blk_drewN ?_ _ | refine blk_drew ?_ | refine blk_alloc ?_ _)); refine blk_far ?_ NB262_283.out _; (with_reducible repeat (first | refine blk_drewN ?_ _ | refine blk_drew ?_ | refine blk_alloc ?_ _)); refine blk_far ?_ NB262_283.out _; (with_reducible repeat (first | refine blk_drewN ?_ _ | refine blk_drew ?_ | refine blk_alloc ?_ _)); refine blk_far ?_ NB262_283.out _; (with_reducible repeat (first | refine blk_drewN ?_ _ | refine blk_drew ?_ | refine blk_alloc ?_ _)); refine blk_far ?_ NB262_283.out _; (with_reducible repeat (first | refine blk_drewN ?_ _ | refine blk_drew ?_ | refine blk_alloc ?_ _)); refine blk_far ?_ NB262_283.out _; (with_reducible repeat (first | refine blk_drewN ?_ _ | refine blk_drew ?_ | refine blk_alloc ?_ _)); refine blk_far ?_ NB262_283.out _; (with_reducible repeat (first | refine blk_drewN ?_ _ | refine blk_drew ?_ | refine blk_alloc ?_ _)); refine blk_far ?_ NB262_283.out _; (with_reducible repeat (first | refine blk_drewN ?_ _ | refine blk_drew ?_ | refine blk_alloc ?_ _)); refine blk_far ?_ NB262_283.out _; (with_reducible repeat (first | refine blk_drewN ?_ _ | refine blk_drew ?_ | refine blk_alloc ?_ _)); refine blk_far ?_ NB262_283.out _; (with_reducible repeat (first | refine blk_drewN ?_ _ | refine blk_drew ?_ | refine blk_alloc ?_ _)); refine blk_far ?_ NB262_283.out _; (with_reducible repeat (first | refine blk_drewN ?_ _ | refine blk_drew ?_ | refine blk_alloc ?_ _)); exact BK262.out) hb); have n23_ := Aside0.mk (blk_below (g := gb283) (o := .cells #[.int .i64 t263, .int .i64 t264, .int .i64 t265, .slice Ao63 t266.length co63, .slice Ao64 t269.length co64, .int .i64 t272, .int .i64 t273, .slice Ao65 t274.length co65, .slice Ao66 t277.length co66, .slice Ao67 t280.length co67] 55 (0, 0)) (by (with_reducible repeat (first | refine blk_drewN ?_ _ | refine blk_drew ?_ | refine blk_alloc ?_ _)); refine blk_put (cs := #[.int .i64 t263, .int .i64 t264, .int .i64 t265, .slice Ao63 t266.length co63, .slice Ao64 t269.length co64, .int .i64 t272, .int .i64 t273, .slice Ao65 t274.length co65, .slice Ao66 t277.length co66, .slice none 0 0]) ?_ 9 _ rfl; (with_reducible repeat (first | refine blk_drewN ?_ _ | refine blk_drew ?_ | refine blk_alloc ?_ _)); refine blk_put (cs := #[.int .i64 t263, .int .i64 t264, .int .i64 t265, .slice Ao63 t266.length co63, .slice Ao64 t269.length co64, .int .i64 t272, .int .i64 t273, .slice Ao65 t274.length co65, .slice none 0 0, .slice none 0 0]) ?_ 8 _ rfl; (with_reducible repeat (first | refine blk_drewN ?_ _ | refine blk_drew ?_ | refine blk_alloc ?_ _)); refine blk_put (cs := #[.int .i64 t263, .int .i64 t264, .int .i64 t265, .slice Ao63 t266.length co63, .slice Ao64 t269.length co64, .int .i64 t272, .int .i64 t273, .slice none 0 0, .slice none 0 0, .slice none 0 0]) ?_ 7 _ rfl; (with_reducible repeat (first | refine blk_drewN ?_ _ | refine blk_drew ?_ | refine blk_alloc ?_ _)); refine blk_put (cs := #[.int .i64 t263, .int .i64 t264, .int .i64 t265, .slice Ao63 t266.length co63, .slice Ao64 t269.length co64, .int .i64 t272, .int .i64 0, .slice none 0 0, .slice none 0 0, .slice none 0 0]) ?_ 6 _ rfl; (with_reducible repeat (first | refine blk_drewN ?_ _ | refine blk_drew ?_ | refine blk_alloc ?_ _)); refine blk_put (cs := #[.int .i64 t263, .int .i64 t264, .int .i64 t265, .slice Ao63 t266.length co63, .slice Ao64 t269.length co64, .int .i64 0, .int .i64 0, .slice none 0 0, .slice none 0 0, .slice none 0 0]) ?_ 5 _ rfl; (with_reducible repeat (first | refine blk_drewN ?_ _ | refine blk_drew ?_ | refine blk_alloc ?_ _)); refine blk_put (cs := #[.int .i64 t263, .int .i64 t264, .int .i64 t265, .slice Ao63 t266.length co63, .slice none 0 0, .int .i64 0, .int .i64 0, .slice none 0 0, .slice none 0 0, .slice none 0 0]) ?_ 4 _ rfl; (with_reducible repeat (first | refine blk_drewN ?_ _ | refine blk_drew ?_ | refine blk_alloc ?_ _)); refine blk_put (cs := #[.int .i64 t263, .int .i64 t264, .int .i64 t265, .slice none 0 0, .slice none 0 0, .int .i64 0, .int .i64 0, .slice none 0 0, .slice none 0 0, .slice none 0 0]) ?_ 3 _ rfl; (with_reducible repeat (first | refine blk_drewN ?_ _ | refine blk_drew ?_ | refine blk_alloc ?_ _)); refine blk_put (cs := #[.int .i64 t263, .int .i64 t264, .int .i64 0, .slice none 0 0, .slice none 0 0, .int .i64 0, .int .i64 0, .slice none 0 0, .slice none 0 0, .slice none 0 0]) ?_ 2 _ rfl; (with_reducible repeat (first | refine blk_drewN ?_ _ | refine blk_drew ?_ | refine blk_alloc ?_ _)); refine blk_put (cs := #[.int .i64 t263, .int .i64 0, .int .i64 0, .slice none 0 0, .slice none 0 0, .int .i64 0, .int .i64 0, .slice none 0 0, .slice none 0 0, .slice none 0 0]) ?_ 1 _ rfl; (with_reducible repeat (first | refine blk_drewN ?_ _ | refine blk_drew ?_ | refine blk_alloc ?_ _)); refine blk_put (cs := #[.int .i64 0, .int .i64 0, .int .i64 0, .slice none 0 0, .slice none 0 0, .int .i64 0, .int .i64 0, .slice none 0 0, .slice none 0 0, .slice none 0 0]) ?_ 0 _ rfl; (with_reducible repeat (first | refine blk_drewN ?_ _ | refine blk_drew ?_ | refine blk_alloc ?_ _)); exact BK283.out) hb); have n24_ := Aside0.mk (below_step (by repeat (first | (with_reducible first | exact HB.out | apply below_alloc | apply pw_below_drewN | apply below_drew1 | refine below_set ?_ GE197.out | refine below_set ?_ GE198.out | refine below_set ?_ GE262.out | refine below_set ?_ GE283.out) | exact HB.out)) hb); clear HO206; clear HO209; clear HO214; clear HO217; clear HO220; clear HO226; clear HO229; clear HO234; clear HO237; clear HO240; clear HO247; clear HO250; clear HO255; clear HO258; clear HO261; clear HO268; clear HO271; clear HO276; clear HO279; clear HO282; clear BK197; clear BK198; clear BK262; clear BK283; clear HB; have HO206 := n0_; have HO209 := n1_; have HO214 := n2_; have HO217 := n3_; have HO220 := n4_; have HO226 := n5_; have HO229 := n6_; have HO234 := n7_; have HO237 := n8_; have HO240 := n9_; have HO247 := n10_; have HO250 := n11_; have HO255 := n12_; have HO258 := n13_; have HO261 := n14_; have HO268 := n15_; have HO271 := n16_; have HO276 := n17_; have HO279 := n18_; have HO282 := n19_; have BK197 := n20_; have BK198 := n21_; have BK262 := n22_; have BK283 := n23_; have HB := n24_; clear n0_ n1_ n2_ n3_ n4_ n5_ n6_ n7_ n8_ n9_ n10_ n11_ n12_ n13_ n14_ n15_ n16_ n17_ n18_ n19_ n20_ n21_ n22_ n23_ n24_; (try clear hb); (try clear hb2); (try clear hk); (try clear hi)))
      have n0_ := Aside0.mk (Kd.R_drew HO206.out)
      have n1_ := Aside0.mk (Kd.R_drew HO209.out)
      have n2_ := Aside0.mk (Kd.R_drew HO214.out)
      have n3_ := Aside0.mk (Kd.R_drew HO217.out)
      have n4_ := Aside0.mk (Kd.S_drew HO220.out)
      have n5_ := Aside0.mk (Kd.R_drew HO226.out)
      have n6_ := Aside0.mk (Kd.R_drew HO229.out)
      have n7_ := Aside0.mk (Kd.R_drew HO234.out)
      have n8_ := Aside0.mk (Kd.R_drew HO237.out)
      have n9_ := Aside0.mk (Kd.S_drew HO240.out)
      have n10_ := Aside0.mk (Kd.R_drew HO247.out)
      have n11_ := Aside0.mk (Kd.R_drew HO250.out)
      have n12_ := Aside0.mk (Kd.R_drew HO255.out)
      have n13_ := Aside0.mk (Kd.R_drew HO258.out)
      have n14_ := Aside0.mk (Kd.S_drew HO261.out)
      have n15_ := Aside0.mk (Kd.R_drew HO268.out)
      have n16_ := Aside0.mk (Kd.R_drew HO271.out)
      have n17_ := Aside0.mk (Kd.R_drew HO276.out)
      have n18_ := Aside0.mk (Kd.R_drew HO279.out)
      have n19_ := Aside0.mk (Kd.S_drew HO282.out)
      have n20_ := Aside0.mk (blk_drew BK197.out)
      have n21_ := Aside0.mk (blk_drew BK198.out)
      have n22_ := Aside0.mk (blk_drew BK262.out)
      have n23_ := Aside0.mk (blk_drew BK283.out)
      have n24_ := Aside0.mk (below_drew1 HB.out)
      clear HO206
      clear HO209
      clear HO214
      clear HO217
      clear HO220
      clear HO226
      clear HO229
      clear HO234
      clear HO237
      clear HO240
      clear HO247
      clear HO250
      clear HO255
      clear HO258
      clear HO261
      clear HO268
      clear HO271
      clear HO276
      clear HO279
      clear HO282
      clear BK197
      clear BK198
      clear BK262
      clear BK283
      clear HB
      have HO206 := n0_
      have HO209 := n1_
      have HO214 := n2_
      have HO217 := n3_
      have HO220 := n4_
      have HO226 := n5_
      have HO229 := n6_
      have HO234 := n7_
      have HO237 := n8_
      have HO240 := n9_
      have HO247 := n10_
      have HO250 := n11_
      have HO255 := n12_
      have HO258 := n13_
      have HO261 := n14_
      have HO268 := n15_
      have HO271 := n16_
      have HO276 := n17_
      have HO279 := n18_
      have HO282 := n19_
      have BK197 := n20_
      have BK198 := n21_
      have BK262 := n22_
      have BK283 := n23_
      have HB := n24_
      clear n0_ n1_ n2_ n3_ n4_ n5_ n6_ n7_ n8_ n9_ n10_ n11_ n12_ n13_ n14_ n15_ n16_ n17_ n18_ n19_ n20_ n21_ n22_ n23_ n24_
      refine start_ (n := 5) (S := fun w' => w'.cell? ⟨gb262, 0, none⟩ = some (.int .i64 t242) ∧ w'.cell? ⟨gb262, 1, none⟩ = some (.int .i64 t243) ∧ w'.cell? ⟨gb262, 2, none⟩ = some (.int .i64 t244) ∧ w'.cell? ⟨gb262, 3, none⟩ = some (.slice Ao51 t245.length co51) ∧ w'.cell? ⟨gb262, 4, none⟩ = some (.slice Ao52 t248.length co52) ∧ w'.cell? ⟨gb262, 5, none⟩ = some (.int .i64 t251) ∧ w'.cell? ⟨gb262, 6, none⟩ = some (.int .i64 t252) ∧ w'.cell? ⟨gb262, 7, none⟩ = some (.slice Ao53 t253.length co53) ∧ w'.cell? ⟨gb262, 8, none⟩ = some (.slice Ao54 t256.length co54) ∧ w'.cell? ⟨gb262, 9, none⟩ = some (.slice Ao55 t259.length co55) ∧ w'.cell? ⟨gb197, 0, none⟩ = some (.int .i64 a0_0) ∧ w'.cell? ⟨gb197, 1, none⟩ = some (.int .i64 a0_1) ∧ w'.cell? ⟨gb197, 2, none⟩ = some (.int .i64 a0_2) ∧ w'.cell? ⟨gb197, 3, none⟩ = some (.slice A0_3 l0_3.length c0_3) ∧ w'.cell? ⟨gb197, 4, none⟩ = some (.slice A0_4 l0_4.length c0_4) ∧ w'.cell? ⟨gb197, 5, none⟩ = some (.int .i64 a0_5) ∧ w'.cell? ⟨gb197, 6, none⟩ = some (.int .i64 a0_6) ∧ w'.cell? ⟨gb197, 7, none⟩ = some (.slice A0_7 l0_7.length c0_7) ∧ w'.cell? ⟨gb197, 8, none⟩ = some (.slice A0_8 l0_8.length c0_8) ∧ w'.cell? ⟨gb197, 9, none⟩ = some (.slice A0_9 l0_9.length c0_9)) (ds := []) #[false, false, false, false, false] (by kernel_rfl) rfl rfl ⟨(blk_cell BK262.out 0).trans rfl, (blk_cell BK262.out 1).trans rfl, (blk_cell BK262.out 2).trans rfl, (blk_cell BK262.out 3).trans rfl, (blk_cell BK262.out 4).trans rfl, (blk_cell BK262.out 5).trans rfl, (blk_cell BK262.out 6).trans rfl, (blk_cell BK262.out 7).trans rfl, (blk_cell BK262.out 8).trans rfl, (blk_cell BK262.out 9).trans rfl, (blk_cell BK197.out 0).trans rfl, (blk_cell BK197.out 1).trans rfl, (blk_cell BK197.out 2).trans rfl, (blk_cell BK197.out 3).trans rfl, (blk_cell BK197.out 4).trans rfl, (blk_cell BK197.out 5).trans rfl, (blk_cell BK197.out 6).trans rfl, (blk_cell BK197.out 7).trans rfl, (blk_cell BK197.out 8).trans rfl, (blk_cell BK197.out 9).trans rfl⟩ (fun hHeld => ?_)
      generalize w69.drew = w70 at HO206 HO209 HO214 HO217 HO220 HO226 HO229 HO234 HO237 HO240 HO247 HO250 HO255 HO258 HO261 HO268 HO271 HO276 HO279 HO282 BK197 BK198 BK262 BK283 HB hHeld ⊢
      refine take_ (i := 0) (N := some 35) (v := ?_) (a' := ?_) #[true, false, false, false, false] rfl rfl (by kernel_rfl) (fun _ _ _ h => h) (Or.inl ⟨by rfl, ?_⟩) hHeld ?_ ?_
      rotate_left
      ·rintro w' ⟨s0, s1, s2, s3, s4, s5, s6, s7, s8, s9, s10, s11, s12, s13, s14, s15, s16, s17, s18, s19⟩
       go_simp
       with_reducible rfl
      rotate_left
      ·simp only [Act.put, List.setIfInBounds_toArray, List.set_cons_zero, List.set_cons_succ, i64_w, i32_w]
       rfl
      refine take_ (i := 1) (N := some 36) (v := ?_) (a' := ?_) #[true, true, false, false, false] rfl rfl (by kernel_rfl) (fun _ _ _ h => h) (Or.inl ⟨by rfl, ?_⟩) hHeld ?_ ?_
      rotate_left
      ·rintro w' ⟨s0, s1, s2, s3, s4, s5, s6, s7, s8, s9, s10, s11, s12, s13, s14, s15, s16, s17, s18, s19⟩
       go_simp
       with_reducible rfl
      rotate_left
      ·simp only [Act.put, List.setIfInBounds_toArray, List.set_cons_zero, List.set_cons_succ, i64_w, i32_w]
       rfl
      refine one_ (i := 2) (N := some 37) #[true, true, true, false, false] rfl rfl (by kernel_rfl) (by decide) (fun K hK => ?_)
      refine goes_ Try.func28 (by kernel_rfl) rfl #[.agg #[.int .i64 a0_0, .int .i64 a0_1, .int .i64 a0_2, .slice A0_3 l0_3.length c0_3, .slice A0_4 l0_4.length c0_4, .int .i64 a0_5, .int .i64 a0_6, .slice A0_7 l0_7.length c0_7, .slice A0_8 l0_8.length c0_8, .slice A0_9 l0_9.length c0_9]] (by rfl) rfl rfl (by (try simp only [List.map_toArray, List.map_cons, List.map_nil]); first | done | rfl | (simp only [List.length_drop, List.length_take]; rfl)) ?_
      with_reducible refine (laws_toHead.calls k a0_0 a0_1 a0_2 _ _ l0_3 _ _ l0_4 a0_5 a0_6 _ _ l0_7 _ _ l0_8 _ _ l0_9 t285 t286 t287 t288 t291 t294 t295 t296 t299 t302 _ ?side1 ?side2 ?side3 ?side4 ?side5 ?side6 ?side7 ?side8 ?side9 ?side10 A24.out).mono ?_
      (case side1 => repeat (first | exact (Kd.C_below HR0_3.out HB.out) | (with_reducible refine Kd.C_alloc ?_ _) | (with_reducible refine Kd.C_drewN ?_ _) | (with_reducible refine Kd.C_drew ?_)))
      (case side2 => exact HC0_3.out)
      (case side3 => repeat (first | exact (Kd.C_below HR0_4.out HB.out) | (with_reducible refine Kd.C_alloc ?_ _) | (with_reducible refine Kd.C_drewN ?_ _) | (with_reducible refine Kd.C_drew ?_)))
      (case side4 => exact HC0_4.out)
      (case side5 => repeat (first | exact (Kd.C_below HR0_7.out HB.out) | (with_reducible refine Kd.C_alloc ?_ _) | (with_reducible refine Kd.C_drewN ?_ _) | (with_reducible refine Kd.C_drew ?_)))
      (case side6 => exact HC0_7.out)
      (case side7 => repeat (first | exact (Kd.C_below HR0_8.out HB.out) | (with_reducible refine Kd.C_alloc ?_ _) | (with_reducible refine Kd.C_drewN ?_ _) | (with_reducible refine Kd.C_drew ?_)))
      (case side8 => exact HC0_8.out)
      (case side9 => repeat (first | exact (Kd.C_below HR0_9.out HB.out) | (with_reducible refine Kd.C_alloc ?_ _) | (with_reducible refine Kd.C_drewN ?_ _) | (with_reducible refine Kd.C_drew ?_)))
      (case side10 => exact HC0_9.out)
      rintro e w71 ⟨v289, v292, v297, v300, v303, rfl, ho0, ho1, ho2, ho3, ho4, hb⟩
      refine ⟨_, rfl, ?_⟩
      have n0_ := Aside0.mk (Kd.R_mono (Kd.R_told (Kd.R_told (Kd.R_told (Kd.R_told (Kd.R_old (Kd.R_mv HO206) hb) (Kd.R_base ho0)) (Kd.R_base ho1)) (Kd.R_base ho2)) (Kd.R_base ho3)) (fun _ h_ => h_.1))
      have n1_ := Aside0.mk (Kd.R_mono (Kd.R_told (Kd.R_told (Kd.R_told (Kd.R_told (Kd.R_old (Kd.R_mv HO209) hb) (Kd.R_base ho0)) (Kd.R_base ho1)) (Kd.R_base ho2)) (Kd.R_base ho3)) (fun _ h_ => h_.1))
      have n2_ := Aside0.mk (Kd.R_mono (Kd.R_told (Kd.R_told (Kd.R_told (Kd.R_told (Kd.R_old (Kd.R_mv HO214) hb) (Kd.R_base ho0)) (Kd.R_base ho1)) (Kd.R_base ho2)) (Kd.R_base ho3)) (fun _ h_ => h_.1))
      have n3_ := Aside0.mk (Kd.R_mono (Kd.R_told (Kd.R_told (Kd.R_told (Kd.R_told (Kd.R_old (Kd.R_mv HO217) hb) (Kd.R_base ho0)) (Kd.R_base ho1)) (Kd.R_base ho2)) (Kd.R_base ho3)) (fun _ h_ => h_.1))
      have n4_ := Aside0.mk (Kd.S_mono (Kd.S_told (Kd.S_told (Kd.S_told (Kd.S_told (Kd.S_told (Kd.S_old (Kd.S_mv HO220) hb) (Kd.R_base ho0)) (Kd.R_base ho1)) (Kd.R_base ho2)) (Kd.R_base ho3)) (Kd.S_base ho4)) (fun _ h_ => h_.1))
      have n5_ := Aside0.mk (Kd.R_mono (Kd.R_told (Kd.R_told (Kd.R_told (Kd.R_told (Kd.R_old (Kd.R_mv HO226) hb) (Kd.R_base ho0)) (Kd.R_base ho1)) (Kd.R_base ho2)) (Kd.R_base ho3)) (fun _ h_ => h_.1))
      have n6_ := Aside0.mk (Kd.R_mono (Kd.R_told (Kd.R_told (Kd.R_told (Kd.R_told (Kd.R_old (Kd.R_mv HO229) hb) (Kd.R_base ho0)) (Kd.R_base ho1)) (Kd.R_base ho2)) (Kd.R_base ho3)) (fun _ h_ => h_.1))
      have n7_ := Aside0.mk (Kd.R_mono (Kd.R_told (Kd.R_told (Kd.R_told (Kd.R_told (Kd.R_old (Kd.R_mv HO234) hb) (Kd.R_base ho0)) (Kd.R_base ho1)) (Kd.R_base ho2)) (Kd.R_base ho3)) (fun _ h_ => h_.1))
      have n8_ := Aside0.mk (Kd.R_mono (Kd.R_told (Kd.R_told (Kd.R_told (Kd.R_told (Kd.R_old (Kd.R_mv HO237) hb) (Kd.R_base ho0)) (Kd.R_base ho1)) (Kd.R_base ho2)) (Kd.R_base ho3)) (fun _ h_ => h_.1))
      have n9_ := Aside0.mk (Kd.S_mono (Kd.S_told (Kd.S_told (Kd.S_told (Kd.S_told (Kd.S_told (Kd.S_old (Kd.S_mv HO240) hb) (Kd.R_base ho0)) (Kd.R_base ho1)) (Kd.R_base ho2)) (Kd.R_base ho3)) (Kd.S_base ho4)) (fun _ h_ => h_.1))
      have n10_ := Aside0.mk (Kd.R_mono (Kd.R_told (Kd.R_told (Kd.R_told (Kd.R_told (Kd.R_old (Kd.R_mv HO247) hb) (Kd.R_base ho0)) (Kd.R_base ho1)) (Kd.R_base ho2)) (Kd.R_base ho3)) (fun _ h_ => h_.1))
      have n11_ := Aside0.mk (Kd.R_mono (Kd.R_told (Kd.R_told (Kd.R_told (Kd.R_told (Kd.R_old (Kd.R_mv HO250) hb) (Kd.R_base ho0)) (Kd.R_base ho1)) (Kd.R_base ho2)) (Kd.R_base ho3)) (fun _ h_ => h_.1))
      have n12_ := Aside0.mk (Kd.R_mono (Kd.R_told (Kd.R_told (Kd.R_told (Kd.R_told (Kd.R_old (Kd.R_mv HO255) hb) (Kd.R_base ho0)) (Kd.R_base ho1)) (Kd.R_base ho2)) (Kd.R_base ho3)) (fun _ h_ => h_.1))
      have n13_ := Aside0.mk (Kd.R_mono (Kd.R_told (Kd.R_told (Kd.R_told (Kd.R_told (Kd.R_old (Kd.R_mv HO258) hb) (Kd.R_base ho0)) (Kd.R_base ho1)) (Kd.R_base ho2)) (Kd.R_base ho3)) (fun _ h_ => h_.1))
      have n14_ := Aside0.mk (Kd.S_mono (Kd.S_told (Kd.S_told (Kd.S_told (Kd.S_told (Kd.S_told (Kd.S_old (Kd.S_mv HO261) hb) (Kd.R_base ho0)) (Kd.R_base ho1)) (Kd.R_base ho2)) (Kd.R_base ho3)) (Kd.S_base ho4)) (fun _ h_ => h_.1))
      have n15_ := Aside0.mk (Kd.R_mono (Kd.R_told (Kd.R_told (Kd.R_told (Kd.R_told (Kd.R_old (Kd.R_mv HO268) hb) (Kd.R_base ho0)) (Kd.R_base ho1)) (Kd.R_base ho2)) (Kd.R_base ho3)) (fun _ h_ => h_.1))
      have n16_ := Aside0.mk (Kd.R_mono (Kd.R_told (Kd.R_told (Kd.R_told (Kd.R_told (Kd.R_old (Kd.R_mv HO271) hb) (Kd.R_base ho0)) (Kd.R_base ho1)) (Kd.R_base ho2)) (Kd.R_base ho3)) (fun _ h_ => h_.1))
      have n17_ := Aside0.mk (Kd.R_mono (Kd.R_told (Kd.R_told (Kd.R_told (Kd.R_told (Kd.R_old (Kd.R_mv HO276) hb) (Kd.R_base ho0)) (Kd.R_base ho1)) (Kd.R_base ho2)) (Kd.R_base ho3)) (fun _ h_ => h_.1))
      have n18_ := Aside0.mk (Kd.R_mono (Kd.R_told (Kd.R_told (Kd.R_told (Kd.R_told (Kd.R_old (Kd.R_mv HO279) hb) (Kd.R_base ho0)) (Kd.R_base ho1)) (Kd.R_base ho2)) (Kd.R_base ho3)) (fun _ h_ => h_.1))
      have n19_ := Aside0.mk (Kd.S_mono (Kd.S_told (Kd.S_told (Kd.S_told (Kd.S_told (Kd.S_told (Kd.S_old (Kd.S_mv HO282) hb) (Kd.R_base ho0)) (Kd.R_base ho1)) (Kd.R_base ho2)) (Kd.R_base ho3)) (Kd.S_base ho4)) (fun _ h_ => h_.1))
      have n20_ := Aside0.mk (Kd.R_lower (Kd.R_new' (Kd.R_new' (Kd.R_new' (Kd.R_new' (Kd.R_new' (Kd.R_new' (Kd.R_new' (Kd.R_new' (Kd.R_new' (Kd.R_new' (Kd.R_new' (Kd.R_new' (Kd.R_new' (Kd.R_new' (Kd.R_new' (Kd.R_new' ho0 (Kd.R_lt (Kd.R_mv HO206))) (Kd.R_lt (Kd.R_mv HO209))) (Kd.R_lt (Kd.R_mv HO214))) (Kd.R_lt (Kd.R_mv HO217))) (Kd.R_lt (Kd.R_mv HO226))) (Kd.R_lt (Kd.R_mv HO229))) (Kd.R_lt (Kd.R_mv HO234))) (Kd.R_lt (Kd.R_mv HO237))) (Kd.R_lt (Kd.R_mv HO247))) (Kd.R_lt (Kd.R_mv HO250))) (Kd.R_lt (Kd.R_mv HO255))) (Kd.R_lt (Kd.R_mv HO258))) (Kd.R_lt (Kd.R_mv HO268))) (Kd.R_lt (Kd.R_mv HO271))) (Kd.R_lt (Kd.R_mv HO276))) (Kd.R_lt (Kd.R_mv HO279))) (below_size (by repeat (first | (with_reducible first | exact HB.out | apply below_alloc | apply pw_below_drewN | apply below_drew1 | refine below_set ?_ GE197.out | refine below_set ?_ GE198.out | refine below_set ?_ GE262.out | refine below_set ?_ GE283.out) | exact HB.out))))
      have n21_ := Aside0.mk (Kd.R_lower (Kd.R_new' (Kd.R_new' (Kd.R_new' (Kd.R_new' (Kd.R_new' (Kd.R_new' (Kd.R_new' (Kd.R_new' (Kd.R_new' (Kd.R_new' (Kd.R_new' (Kd.R_new' (Kd.R_new' (Kd.R_new' (Kd.R_new' (Kd.R_new' ho1 (Kd.R_lt (Kd.R_mv HO206))) (Kd.R_lt (Kd.R_mv HO209))) (Kd.R_lt (Kd.R_mv HO214))) (Kd.R_lt (Kd.R_mv HO217))) (Kd.R_lt (Kd.R_mv HO226))) (Kd.R_lt (Kd.R_mv HO229))) (Kd.R_lt (Kd.R_mv HO234))) (Kd.R_lt (Kd.R_mv HO237))) (Kd.R_lt (Kd.R_mv HO247))) (Kd.R_lt (Kd.R_mv HO250))) (Kd.R_lt (Kd.R_mv HO255))) (Kd.R_lt (Kd.R_mv HO258))) (Kd.R_lt (Kd.R_mv HO268))) (Kd.R_lt (Kd.R_mv HO271))) (Kd.R_lt (Kd.R_mv HO276))) (Kd.R_lt (Kd.R_mv HO279))) (below_size (by repeat (first | (with_reducible first | exact HB.out | apply below_alloc | apply pw_below_drewN | apply below_drew1 | refine below_set ?_ GE197.out | refine below_set ?_ GE198.out | refine below_set ?_ GE262.out | refine below_set ?_ GE283.out) | exact HB.out))))
      have n22_ := Aside0.mk (Kd.R_lower (Kd.R_new' (Kd.R_new' (Kd.R_new' (Kd.R_new' (Kd.R_new' (Kd.R_new' (Kd.R_new' (Kd.R_new' (Kd.R_new' (Kd.R_new' (Kd.R_new' (Kd.R_new' (Kd.R_new' (Kd.R_new' (Kd.R_new' (Kd.R_new' ho2 (Kd.R_lt (Kd.R_mv HO206))) (Kd.R_lt (Kd.R_mv HO209))) (Kd.R_lt (Kd.R_mv HO214))) (Kd.R_lt (Kd.R_mv HO217))) (Kd.R_lt (Kd.R_mv HO226))) (Kd.R_lt (Kd.R_mv HO229))) (Kd.R_lt (Kd.R_mv HO234))) (Kd.R_lt (Kd.R_mv HO237))) (Kd.R_lt (Kd.R_mv HO247))) (Kd.R_lt (Kd.R_mv HO250))) (Kd.R_lt (Kd.R_mv HO255))) (Kd.R_lt (Kd.R_mv HO258))) (Kd.R_lt (Kd.R_mv HO268))) (Kd.R_lt (Kd.R_mv HO271))) (Kd.R_lt (Kd.R_mv HO276))) (Kd.R_lt (Kd.R_mv HO279))) (below_size (by repeat (first | (with_reducible first | exact HB.out | apply below_alloc | apply pw_below_drewN | apply below_drew1 | refine below_set ?_ GE197.out | refine below_set ?_ GE198.out | refine below_set ?_ GE262.out | refine below_set ?_ GE283.out) | exact HB.out))))
      have n23_ := Aside0.mk (Kd.R_lower (Kd.R_new' (Kd.R_new' (Kd.R_new' (Kd.R_new' (Kd.R_new' (Kd.R_new' (Kd.R_new' (Kd.R_new' (Kd.R_new' (Kd.R_new' (Kd.R_new' (Kd.R_new' (Kd.R_new' (Kd.R_new' (Kd.R_new' (Kd.R_new' ho3 (Kd.R_lt (Kd.R_mv HO206))) (Kd.R_lt (Kd.R_mv HO209))) (Kd.R_lt (Kd.R_mv HO214))) (Kd.R_lt (Kd.R_mv HO217))) (Kd.R_lt (Kd.R_mv HO226))) (Kd.R_lt (Kd.R_mv HO229))) (Kd.R_lt (Kd.R_mv HO234))) (Kd.R_lt (Kd.R_mv HO237))) (Kd.R_lt (Kd.R_mv HO247))) (Kd.R_lt (Kd.R_mv HO250))) (Kd.R_lt (Kd.R_mv HO255))) (Kd.R_lt (Kd.R_mv HO258))) (Kd.R_lt (Kd.R_mv HO268))) (Kd.R_lt (Kd.R_mv HO271))) (Kd.R_lt (Kd.R_mv HO276))) (Kd.R_lt (Kd.R_mv HO279))) (below_size (by repeat (first | (with_reducible first | exact HB.out | apply below_alloc | apply pw_below_drewN | apply below_drew1 | refine below_set ?_ GE197.out | refine below_set ?_ GE198.out | refine below_set ?_ GE262.out | refine below_set ?_ GE283.out) | exact HB.out))))
      have n24_ := Aside0.mk (Kd.S_lower (Kd.S_new' (Kd.S_new' (Kd.S_new' (Kd.S_new' (Kd.S_new' (Kd.S_new' (Kd.S_new' (Kd.S_new' (Kd.S_new' (Kd.S_new' (Kd.S_new' (Kd.S_new' (Kd.S_new' (Kd.S_new' (Kd.S_new' (Kd.S_new' (Kd.S_new' (Kd.S_new' (Kd.S_new' (Kd.S_new' ho4 (Kd.R_lt (Kd.R_mv HO206))) (Kd.R_lt (Kd.R_mv HO209))) (Kd.R_lt (Kd.R_mv HO214))) (Kd.R_lt (Kd.R_mv HO217))) (Kd.S_lt (Kd.S_mv HO220))) (Kd.R_lt (Kd.R_mv HO226))) (Kd.R_lt (Kd.R_mv HO229))) (Kd.R_lt (Kd.R_mv HO234))) (Kd.R_lt (Kd.R_mv HO237))) (Kd.S_lt (Kd.S_mv HO240))) (Kd.R_lt (Kd.R_mv HO247))) (Kd.R_lt (Kd.R_mv HO250))) (Kd.R_lt (Kd.R_mv HO255))) (Kd.R_lt (Kd.R_mv HO258))) (Kd.S_lt (Kd.S_mv HO261))) (Kd.R_lt (Kd.R_mv HO268))) (Kd.R_lt (Kd.R_mv HO271))) (Kd.R_lt (Kd.R_mv HO276))) (Kd.R_lt (Kd.R_mv HO279))) (Kd.S_lt (Kd.S_mv HO282))) (below_size (by repeat (first | (with_reducible first | exact HB.out | apply below_alloc | apply pw_below_drewN | apply below_drew1 | refine below_set ?_ GE197.out | refine below_set ?_ GE198.out | refine below_set ?_ GE262.out | refine below_set ?_ GE283.out) | exact HB.out))))
      have n25_ := Aside0.mk (blk_below (g := gb197) (o := .cells #[.int .i64 a0_0, .int .i64 a0_1, .int .i64 a0_2, .slice A0_3 l0_3.length c0_3, .slice A0_4 l0_4.length c0_4, .int .i64 a0_5, .int .i64 a0_6, .slice A0_7 l0_7.length c0_7, .slice A0_8 l0_8.length c0_8, .slice A0_9 l0_9.length c0_9] 50 (0, 0)) (blk_mv BK197) hb)
      have n26_ := Aside0.mk (blk_below (g := gb198) (o := .cells #[.int .i64 a1_0, .int .i64 a1_1, .int .i64 a1_2, .slice A1_3 l1_3.length c1_3, .slice A1_4 l1_4.length c1_4, .int .i64 a1_5, .int .i64 a1_6, .slice A1_7 l1_7.length c1_7, .slice A1_8 l1_8.length c1_8, .slice A1_9 l1_9.length c1_9] 50 (0, 0)) (blk_mv BK198) hb)
      have n27_ := Aside0.mk (blk_below (g := gb262) (o := .cells #[.int .i64 t242, .int .i64 t243, .int .i64 t244, .slice Ao51 t245.length co51, .slice Ao52 t248.length co52, .int .i64 t251, .int .i64 t252, .slice Ao53 t253.length co53, .slice Ao54 t256.length co54, .slice Ao55 t259.length co55] 55 (0, 0)) (blk_mv BK262) hb)
      have n28_ := Aside0.mk (blk_below (g := gb283) (o := .cells #[.int .i64 t263, .int .i64 t264, .int .i64 t265, .slice Ao63 t266.length co63, .slice Ao64 t269.length co64, .int .i64 t272, .int .i64 t273, .slice Ao65 t274.length co65, .slice Ao66 t277.length co66, .slice Ao67 t280.length co67] 55 (0, 0)) (blk_mv BK283) hb)
      have n29_ := Aside0.mk (below_step (by repeat (first | (with_reducible first | exact HB.out | apply below_alloc | apply pw_below_drewN | apply below_drew1 | refine below_set ?_ GE197.out | refine below_set ?_ GE198.out | refine below_set ?_ GE262.out | refine below_set ?_ GE283.out) | exact HB.out)) hb)
      clear HO206
      clear HO209
      clear HO214
      clear HO217
      clear HO220
      clear HO226
      clear HO229
      clear HO234
      clear HO237
      clear HO240
      clear HO247
      clear HO250
      clear HO255
      clear HO258
      clear HO261
      clear HO268
      clear HO271
      clear HO276
      clear HO279
      clear HO282
      clear BK197
      clear BK198
      clear BK262
      clear BK283
      clear HB
      have HO206 := n0_
      have HO209 := n1_
      have HO214 := n2_
      have HO217 := n3_
      have HO220 := n4_
      have HO226 := n5_
      have HO229 := n6_
      have HO234 := n7_
      have HO237 := n8_
      have HO240 := n9_
      have HO247 := n10_
      have HO250 := n11_
      have HO255 := n12_
      have HO258 := n13_
      have HO261 := n14_
      have HO268 := n15_
      have HO271 := n16_
      have HO276 := n17_
      have HO279 := n18_
      have HO282 := n19_
      have HO290 := n20_
      have HO293 := n21_
      have HO298 := n22_
      have HO301 := n23_
      have HO304 := n24_
      have BK197 := n25_
      have BK198 := n26_
      have BK262 := n27_
      have BK283 := n28_
      have HB := n29_
      clear n0_ n1_ n2_ n3_ n4_ n5_ n6_ n7_ n8_ n9_ n10_ n11_ n12_ n13_ n14_ n15_ n16_ n17_ n18_ n19_ n20_ n21_ n22_ n23_ n24_ n25_ n26_ n27_ n28_ n29_
      (try clear hb)
      (try clear hb2)
      (try clear hk)
      (try clear hi)
      (try clear ho0)
      (try clear ho1)
      (try clear ho2)
      (try clear ho3)
      (try clear ho4)
      obtain ⟨Ao72, co72, eo72⟩ := Kd.R_slice HO290.out
      (first | subst eo72 | (injection eo72 with f1_ f2_ f3_; have f4_ := f1_.symm; have f5_ := f3_.symm; clear f1_ f2_ f3_; subst f4_; subst f5_))
      obtain ⟨Ao73, co73, eo73⟩ := Kd.R_slice HO293.out
      (first | subst eo73 | (injection eo73 with f1_ f2_ f3_; have f4_ := f1_.symm; have f5_ := f3_.symm; clear f1_ f2_ f3_; subst f4_; subst f5_))
      obtain ⟨Ao74, co74, eo74⟩ := Kd.R_slice HO298.out
      (first | subst eo74 | (injection eo74 with f1_ f2_ f3_; have f4_ := f1_.symm; have f5_ := f3_.symm; clear f1_ f2_ f3_; subst f4_; subst f5_))
      obtain ⟨Ao75, co75, eo75⟩ := Kd.R_slice HO301.out
      (first | subst eo75 | (injection eo75 with f1_ f2_ f3_; have f4_ := f1_.symm; have f5_ := f3_.symm; clear f1_ f2_ f3_; subst f4_; subst f5_))
      obtain ⟨Ao76, co76, eo76⟩ := Kd.S_slice HO304.out
      (first | subst eo76 | (injection eo76 with f1_ f2_ f3_; have f4_ := f1_.symm; have f5_ := f3_.symm; clear f1_ f2_ f3_; subst f4_; subst f5_))
      refine hK.out _ _ ⟨(blk_cell BK262.out 0).trans rfl, (blk_cell BK262.out 1).trans rfl, (blk_cell BK262.out 2).trans rfl, (blk_cell BK262.out 3).trans rfl, (blk_cell BK262.out 4).trans rfl, (blk_cell BK262.out 5).trans rfl, (blk_cell BK262.out 6).trans rfl, (blk_cell BK262.out 7).trans rfl, (blk_cell BK262.out 8).trans rfl, (blk_cell BK262.out 9).trans rfl, (blk_cell BK197.out 0).trans rfl, (blk_cell BK197.out 1).trans rfl, (blk_cell BK197.out 2).trans rfl, (blk_cell BK197.out 3).trans rfl, (blk_cell BK197.out 4).trans rfl, (blk_cell BK197.out 5).trans rfl, (blk_cell BK197.out 6).trans rfl, (blk_cell BK197.out 7).trans rfl, (blk_cell BK197.out 8).trans rfl, (blk_cell BK197.out 9).trans rfl⟩ (fun hHeld => ?_)
      clear hK K
      refine norm_ (a' := ?_) ?_ ?_
      rotate_left
      ·show Act.put _ (some 37) _ = _
       simp only [Act.put, List.setIfInBounds_toArray, List.set_cons_zero, List.set_cons_succ, i64_w, i32_w]
       rfl
      refine one_ (i := 3) (N := some 38) #[true, true, true, true, false] rfl rfl (by kernel_rfl) (by decide) (fun K hK => ?_)
      refine goes_ Try.func30 (by kernel_rfl) rfl #[.agg #[.int .i64 t242, .int .i64 t243, .int .i64 t244, .slice Ao51 t245.length co51, .slice Ao52 t248.length co52, .int .i64 t251, .int .i64 t252, .slice Ao53 t253.length co53, .slice Ao54 t256.length co54, .slice Ao55 t259.length co55], .agg #[.int .i64 t285, .int .i64 t286, .int .i64 t287, .slice Ao72 t288.length co72, .slice Ao73 t291.length co73, .int .i64 t294, .int .i64 t295, .slice Ao74 t296.length co74, .slice Ao75 t299.length co75, .slice Ao76 t302.length co76]] (by rfl) rfl rfl (by (try simp only [List.map_toArray, List.map_cons, List.map_nil]); first | done | rfl | (simp only [List.length_drop, List.length_take]; rfl)) ?_
      with_reducible refine (laws_eqHead.calls k t242 t243 t244 _ _ t245 _ _ t248 t251 t252 _ _ t253 _ _ t256 _ _ t259 t285 t286 t287 _ _ t288 _ _ t291 t294 t295 _ _ t296 _ _ t299 _ _ t302 true _ ?side1 ?side2 ?side3 ?side4 ?side5 ?side6 ?side7 ?side8 ?side9 ?side10 ?side11 ?side12 ?side13 ?side14 ?side15 ?side16 ?side17 ?side18 ?side19 ?side20 A25.out).mono ?_
      (case side1 => repeat (first | exact (Kd.R_reads' HO247.out).2.2 | (with_reducible refine Kd.C_alloc ?_ _) | (with_reducible refine Kd.C_drewN ?_ _) | (with_reducible refine Kd.C_drew ?_)))
      (case side2 => exact (Kd.R_reads' HO247.out).2.1)
      (case side3 => repeat (first | exact (Kd.R_reads' HO250.out).2.2 | (with_reducible refine Kd.C_alloc ?_ _) | (with_reducible refine Kd.C_drewN ?_ _) | (with_reducible refine Kd.C_drew ?_)))
      (case side4 => exact (Kd.R_reads' HO250.out).2.1)
      (case side5 => repeat (first | exact (Kd.R_reads' HO255.out).2.2 | (with_reducible refine Kd.C_alloc ?_ _) | (with_reducible refine Kd.C_drewN ?_ _) | (with_reducible refine Kd.C_drew ?_)))
      (case side6 => exact (Kd.R_reads' HO255.out).2.1)
      (case side7 => repeat (first | exact (Kd.R_reads' HO258.out).2.2 | (with_reducible refine Kd.C_alloc ?_ _) | (with_reducible refine Kd.C_drewN ?_ _) | (with_reducible refine Kd.C_drew ?_)))
      (case side8 => exact (Kd.R_reads' HO258.out).2.1)
      (case side9 => repeat (first | exact (Kd.S_reads' HO261.out).2.2 | (with_reducible refine Kd.C_alloc ?_ _) | (with_reducible refine Kd.C_drewN ?_ _) | (with_reducible refine Kd.C_drew ?_)))
      (case side10 => exact (Kd.S_reads' HO261.out).2.1)
      (case side11 => repeat (first | exact (Kd.R_reads' HO290.out).2.2 | (with_reducible refine Kd.C_alloc ?_ _) | (with_reducible refine Kd.C_drewN ?_ _) | (with_reducible refine Kd.C_drew ?_)))
      (case side12 => exact (Kd.R_reads' HO290.out).2.1)
      (case side13 => repeat (first | exact (Kd.R_reads' HO293.out).2.2 | (with_reducible refine Kd.C_alloc ?_ _) | (with_reducible refine Kd.C_drewN ?_ _) | (with_reducible refine Kd.C_drew ?_)))
      (case side14 => exact (Kd.R_reads' HO293.out).2.1)
      (case side15 => repeat (first | exact (Kd.R_reads' HO298.out).2.2 | (with_reducible refine Kd.C_alloc ?_ _) | (with_reducible refine Kd.C_drewN ?_ _) | (with_reducible refine Kd.C_drew ?_)))
      (case side16 => exact (Kd.R_reads' HO298.out).2.1)
      (case side17 => repeat (first | exact (Kd.R_reads' HO301.out).2.2 | (with_reducible refine Kd.C_alloc ?_ _) | (with_reducible refine Kd.C_drewN ?_ _) | (with_reducible refine Kd.C_drew ?_)))
      (case side18 => exact (Kd.R_reads' HO301.out).2.1)
      (case side19 => repeat (first | exact (Kd.S_reads' HO304.out).2.2 | (with_reducible refine Kd.C_alloc ?_ _) | (with_reducible refine Kd.C_drewN ?_ _) | (with_reducible refine Kd.C_drew ?_)))
      (case side20 => exact (Kd.S_reads' HO304.out).2.1)
      rintro e w77 ⟨rfl, hb⟩
      refine ⟨_, rfl, ?_⟩
      have n0_ := Aside0.mk (Kd.R_below (Kd.R_mv HO206) hb)
      have n1_ := Aside0.mk (Kd.R_below (Kd.R_mv HO209) hb)
      have n2_ := Aside0.mk (Kd.R_below (Kd.R_mv HO214) hb)
      have n3_ := Aside0.mk (Kd.R_below (Kd.R_mv HO217) hb)
      have n4_ := Aside0.mk (Kd.S_below (Kd.S_mv HO220) hb)
      have n5_ := Aside0.mk (Kd.R_below (Kd.R_mv HO226) hb)
      have n6_ := Aside0.mk (Kd.R_below (Kd.R_mv HO229) hb)
      have n7_ := Aside0.mk (Kd.R_below (Kd.R_mv HO234) hb)
      have n8_ := Aside0.mk (Kd.R_below (Kd.R_mv HO237) hb)
      have n9_ := Aside0.mk (Kd.S_below (Kd.S_mv HO240) hb)
      have n10_ := Aside0.mk (Kd.R_below (Kd.R_mv HO247) hb)
      have n11_ := Aside0.mk (Kd.R_below (Kd.R_mv HO250) hb)
      have n12_ := Aside0.mk (Kd.R_below (Kd.R_mv HO255) hb)
      have n13_ := Aside0.mk (Kd.R_below (Kd.R_mv HO258) hb)
      have n14_ := Aside0.mk (Kd.S_below (Kd.S_mv HO261) hb)
      have n15_ := Aside0.mk (Kd.R_below (Kd.R_mv HO268) hb)
      have n16_ := Aside0.mk (Kd.R_below (Kd.R_mv HO271) hb)
      have n17_ := Aside0.mk (Kd.R_below (Kd.R_mv HO276) hb)
      have n18_ := Aside0.mk (Kd.R_below (Kd.R_mv HO279) hb)
      have n19_ := Aside0.mk (Kd.S_below (Kd.S_mv HO282) hb)
      have n20_ := Aside0.mk (Kd.R_below (Kd.R_mv HO290) hb)
      have n21_ := Aside0.mk (Kd.R_below (Kd.R_mv HO293) hb)
      have n22_ := Aside0.mk (Kd.R_below (Kd.R_mv HO298) hb)
      have n23_ := Aside0.mk (Kd.R_below (Kd.R_mv HO301) hb)
      have n24_ := Aside0.mk (Kd.S_below (Kd.S_mv HO304) hb)
      have n25_ := Aside0.mk (blk_below (g := gb197) (o := .cells #[.int .i64 a0_0, .int .i64 a0_1, .int .i64 a0_2, .slice A0_3 l0_3.length c0_3, .slice A0_4 l0_4.length c0_4, .int .i64 a0_5, .int .i64 a0_6, .slice A0_7 l0_7.length c0_7, .slice A0_8 l0_8.length c0_8, .slice A0_9 l0_9.length c0_9] 50 (0, 0)) (blk_mv BK197) hb)
      have n26_ := Aside0.mk (blk_below (g := gb198) (o := .cells #[.int .i64 a1_0, .int .i64 a1_1, .int .i64 a1_2, .slice A1_3 l1_3.length c1_3, .slice A1_4 l1_4.length c1_4, .int .i64 a1_5, .int .i64 a1_6, .slice A1_7 l1_7.length c1_7, .slice A1_8 l1_8.length c1_8, .slice A1_9 l1_9.length c1_9] 50 (0, 0)) (blk_mv BK198) hb)
      have n27_ := Aside0.mk (blk_below (g := gb262) (o := .cells #[.int .i64 t242, .int .i64 t243, .int .i64 t244, .slice Ao51 t245.length co51, .slice Ao52 t248.length co52, .int .i64 t251, .int .i64 t252, .slice Ao53 t253.length co53, .slice Ao54 t256.length co54, .slice Ao55 t259.length co55] 55 (0, 0)) (blk_mv BK262) hb)
      have n28_ := Aside0.mk (blk_below (g := gb283) (o := .cells #[.int .i64 t263, .int .i64 t264, .int .i64 t265, .slice Ao63 t266.length co63, .slice Ao64 t269.length co64, .int .i64 t272, .int .i64 t273, .slice Ao65 t274.length co65, .slice Ao66 t277.length co66, .slice Ao67 t280.length co67] 55 (0, 0)) (blk_mv BK283) hb)
      have n29_ := Aside0.mk (below_step (by repeat (first | (with_reducible first | exact HB.out | apply below_alloc | apply pw_below_drewN | apply below_drew1 | refine below_set ?_ GE197.out | refine below_set ?_ GE198.out | refine below_set ?_ GE262.out | refine below_set ?_ GE283.out) | exact HB.out)) hb)
      clear HO206
      clear HO209
      clear HO214
      clear HO217
      clear HO220
      clear HO226
      clear HO229
      clear HO234
      clear HO237
      clear HO240
      clear HO247
      clear HO250
      clear HO255
      clear HO258
      clear HO261
      clear HO268
      clear HO271
      clear HO276
      clear HO279
      clear HO282
      clear HO290
      clear HO293
      clear HO298
      clear HO301
      clear HO304
      clear BK197
      clear BK198
      clear BK262
      clear BK283
      clear HB
      have HO206 := n0_
      have HO209 := n1_
      have HO214 := n2_
      have HO217 := n3_
      have HO220 := n4_
      have HO226 := n5_
      have HO229 := n6_
      have HO234 := n7_
      have HO237 := n8_
      have HO240 := n9_
      have HO247 := n10_
      have HO250 := n11_
      have HO255 := n12_
      have HO258 := n13_
      have HO261 := n14_
      have HO268 := n15_
      have HO271 := n16_
      have HO276 := n17_
      have HO279 := n18_
      have HO282 := n19_
      have HO290 := n20_
      have HO293 := n21_
      have HO298 := n22_
      have HO301 := n23_
      have HO304 := n24_
      have BK197 := n25_
      have BK198 := n26_
      have BK262 := n27_
      have BK283 := n28_
      have HB := n29_
      clear n0_ n1_ n2_ n3_ n4_ n5_ n6_ n7_ n8_ n9_ n10_ n11_ n12_ n13_ n14_ n15_ n16_ n17_ n18_ n19_ n20_ n21_ n22_ n23_ n24_ n25_ n26_ n27_ n28_ n29_
      (try clear hb)
      (try clear hb2)
      (try clear hk)
      (try clear hi)
      refine hK.out _ _ ⟨(blk_cell BK262.out 0).trans rfl, (blk_cell BK262.out 1).trans rfl, (blk_cell BK262.out 2).trans rfl, (blk_cell BK262.out 3).trans rfl, (blk_cell BK262.out 4).trans rfl, (blk_cell BK262.out 5).trans rfl, (blk_cell BK262.out 6).trans rfl, (blk_cell BK262.out 7).trans rfl, (blk_cell BK262.out 8).trans rfl, (blk_cell BK262.out 9).trans rfl, (blk_cell BK197.out 0).trans rfl, (blk_cell BK197.out 1).trans rfl, (blk_cell BK197.out 2).trans rfl, (blk_cell BK197.out 3).trans rfl, (blk_cell BK197.out 4).trans rfl, (blk_cell BK197.out 5).trans rfl, (blk_cell BK197.out 6).trans rfl, (blk_cell BK197.out 7).trans rfl, (blk_cell BK197.out 8).trans rfl, (blk_cell BK197.out 9).trans rfl⟩ (fun hHeld => ?_)
      clear hK K
      refine norm_ (a' := ?_) ?_ ?_
      rotate_left
      ·show Act.put _ (some 38) _ = _
       simp only [Act.put, List.setIfInBounds_toArray, List.set_cons_zero, List.set_cons_succ, i64_w, i32_w]
       rfl
      refine pure_ (i := 4) (N := some 39) (v := ?_) (a' := ?_) #[true, true, true, true, true] rfl rfl (by kernel_rfl) (fun _ _ _ h => h) (Or.inl ⟨by rfl, ?_⟩) ?_ ?_
      rotate_left
      ·intro w'
       go_simp
       with_reducible rfl
      rotate_left
      ·simp only [Act.put, List.setIfInBounds_toArray, List.set_cons_zero, List.set_cons_succ, i64_w, i32_w]
       rfl
      refine done_ (by kernel_rfl) ?_
      try go_wp2
      have n0_ := Aside0.mk (Kd.R_drew HO206.out)
      have n1_ := Aside0.mk (Kd.R_drew HO209.out)
      have n2_ := Aside0.mk (Kd.R_drew HO214.out)
      have n3_ := Aside0.mk (Kd.R_drew HO217.out)
      have n4_ := Aside0.mk (Kd.S_drew HO220.out)
      have n5_ := Aside0.mk (Kd.R_drew HO226.out)
      have n6_ := Aside0.mk (Kd.R_drew HO229.out)
      have n7_ := Aside0.mk (Kd.R_drew HO234.out)
      have n8_ := Aside0.mk (Kd.R_drew HO237.out)
      have n9_ := Aside0.mk (Kd.S_drew HO240.out)
      have n10_ := Aside0.mk (Kd.R_drew HO247.out)
      have n11_ := Aside0.mk (Kd.R_drew HO250.out)
      have n12_ := Aside0.mk (Kd.R_drew HO255.out)
      have n13_ := Aside0.mk (Kd.R_drew HO258.out)
      have n14_ := Aside0.mk (Kd.S_drew HO261.out)
      have n15_ := Aside0.mk (Kd.R_drew HO268.out)
      have n16_ := Aside0.mk (Kd.R_drew HO271.out)
      have n17_ := Aside0.mk (Kd.R_drew HO276.out)
      have n18_ := Aside0.mk (Kd.R_drew HO279.out)
      have n19_ := Aside0.mk (Kd.S_drew HO282.out)
      have n20_ := Aside0.mk (Kd.R_drew HO290.out)
      have n21_ := Aside0.mk (Kd.R_drew HO293.out)
      have n22_ := Aside0.mk (Kd.R_drew HO298.out)
      have n23_ := Aside0.mk (Kd.R_drew HO301.out)
      have n24_ := Aside0.mk (Kd.S_drew HO304.out)
      have n25_ := Aside0.mk (blk_drew BK197.out)
      have n26_ := Aside0.mk (blk_drew BK198.out)
      have n27_ := Aside0.mk (blk_drew BK262.out)
      have n28_ := Aside0.mk (blk_drew BK283.out)
      have n29_ := Aside0.mk (below_drew1 HB.out)
      clear HO206
      clear HO209
      clear HO214
      clear HO217
      clear HO220
      clear HO226
      clear HO229
      clear HO234
      clear HO237
      clear HO240
      clear HO247
      clear HO250
      clear HO255
      clear HO258
      clear HO261
      clear HO268
      clear HO271
      clear HO276
      clear HO279
      clear HO282
      clear HO290
      clear HO293
      clear HO298
      clear HO301
      clear HO304
      clear BK197
      clear BK198
      clear BK262
      clear BK283
      clear HB
      have HO206 := n0_
      have HO209 := n1_
      have HO214 := n2_
      have HO217 := n3_
      have HO220 := n4_
      have HO226 := n5_
      have HO229 := n6_
      have HO234 := n7_
      have HO237 := n8_
      have HO240 := n9_
      have HO247 := n10_
      have HO250 := n11_
      have HO255 := n12_
      have HO258 := n13_
      have HO261 := n14_
      have HO268 := n15_
      have HO271 := n16_
      have HO276 := n17_
      have HO279 := n18_
      have HO282 := n19_
      have HO290 := n20_
      have HO293 := n21_
      have HO298 := n22_
      have HO301 := n23_
      have HO304 := n24_
      have BK197 := n25_
      have BK198 := n26_
      have BK262 := n27_
      have BK283 := n28_
      have HB := n29_
      clear n0_ n1_ n2_ n3_ n4_ n5_ n6_ n7_ n8_ n9_ n10_ n11_ n12_ n13_ n14_ n15_ n16_ n17_ n18_ n19_ n20_ n21_ n22_ n23_ n24_ n25_ n26_ n27_ n28_ n29_
      refine start_ (n := 5) (S := fun w' => w'.cell? ⟨gb283, 0, none⟩ = some (.int .i64 t263) ∧ w'.cell? ⟨gb283, 1, none⟩ = some (.int .i64 t264) ∧ w'.cell? ⟨gb283, 2, none⟩ = some (.int .i64 t265) ∧ w'.cell? ⟨gb283, 3, none⟩ = some (.slice Ao63 t266.length co63) ∧ w'.cell? ⟨gb283, 4, none⟩ = some (.slice Ao64 t269.length co64) ∧ w'.cell? ⟨gb283, 5, none⟩ = some (.int .i64 t272) ∧ w'.cell? ⟨gb283, 6, none⟩ = some (.int .i64 t273) ∧ w'.cell? ⟨gb283, 7, none⟩ = some (.slice Ao65 t274.length co65) ∧ w'.cell? ⟨gb283, 8, none⟩ = some (.slice Ao66 t277.length co66) ∧ w'.cell? ⟨gb283, 9, none⟩ = some (.slice Ao67 t280.length co67) ∧ w'.cell? ⟨gb198, 0, none⟩ = some (.int .i64 a1_0) ∧ w'.cell? ⟨gb198, 1, none⟩ = some (.int .i64 a1_1) ∧ w'.cell? ⟨gb198, 2, none⟩ = some (.int .i64 a1_2) ∧ w'.cell? ⟨gb198, 3, none⟩ = some (.slice A1_3 l1_3.length c1_3) ∧ w'.cell? ⟨gb198, 4, none⟩ = some (.slice A1_4 l1_4.length c1_4) ∧ w'.cell? ⟨gb198, 5, none⟩ = some (.int .i64 a1_5) ∧ w'.cell? ⟨gb198, 6, none⟩ = some (.int .i64 a1_6) ∧ w'.cell? ⟨gb198, 7, none⟩ = some (.slice A1_7 l1_7.length c1_7) ∧ w'.cell? ⟨gb198, 8, none⟩ = some (.slice A1_8 l1_8.length c1_8) ∧ w'.cell? ⟨gb198, 9, none⟩ = some (.slice A1_9 l1_9.length c1_9)) (ds := []) #[false, false, false, false, false] (by kernel_rfl) rfl rfl ⟨(blk_cell BK283.out 0).trans rfl, (blk_cell BK283.out 1).trans rfl, (blk_cell BK283.out 2).trans rfl, (blk_cell BK283.out 3).trans rfl, (blk_cell BK283.out 4).trans rfl, (blk_cell BK283.out 5).trans rfl, (blk_cell BK283.out 6).trans rfl, (blk_cell BK283.out 7).trans rfl, (blk_cell BK283.out 8).trans rfl, (blk_cell BK283.out 9).trans rfl, (blk_cell BK198.out 0).trans rfl, (blk_cell BK198.out 1).trans rfl, (blk_cell BK198.out 2).trans rfl, (blk_cell BK198.out 3).trans rfl, (blk_cell BK198.out 4).trans rfl, (blk_cell BK198.out 5).trans rfl, (blk_cell BK198.out 6).trans rfl, (blk_cell BK198.out 7).trans rfl, (blk_cell BK198.out 8).trans rfl, (blk_cell BK198.out 9).trans rfl⟩ (fun hHeld => ?_)
      generalize w77.drew = w78 at HO206 HO209 HO214 HO217 HO220 HO226 HO229 HO234 HO237 HO240 HO247 HO250 HO255 HO258 HO261 HO268 HO271 HO276 HO279 HO282 HO290 HO293 HO298 HO301 HO304 BK197 BK198 BK262 BK283 HB hHeld ⊢
      refine take_ (i := 0) (N := some 40) (v := ?_) (a' := ?_) #[true, false, false, false, false] rfl rfl (by kernel_rfl) (fun _ _ _ h => h) (Or.inl ⟨by rfl, ?_⟩) hHeld ?_ ?_
      rotate_left
      ·rintro w' ⟨s0, s1, s2, s3, s4, s5, s6, s7, s8, s9, s10, s11, s12, s13, s14, s15, s16, s17, s18, s19⟩
       go_simp
       with_reducible rfl
      rotate_left
      ·simp only [Act.put, List.setIfInBounds_toArray, List.set_cons_zero, List.set_cons_succ, i64_w, i32_w]
       rfl
      refine take_ (i := 1) (N := some 41) (v := ?_) (a' := ?_) #[true, true, false, false, false] rfl rfl (by kernel_rfl) (fun _ _ _ h => h) (Or.inl ⟨by rfl, ?_⟩) hHeld ?_ ?_
      rotate_left
      ·rintro w' ⟨s0, s1, s2, s3, s4, s5, s6, s7, s8, s9, s10, s11, s12, s13, s14, s15, s16, s17, s18, s19⟩
       go_simp
       with_reducible rfl
      rotate_left
      ·simp only [Act.put, List.setIfInBounds_toArray, List.set_cons_zero, List.set_cons_succ, i64_w, i32_w]
       rfl
      refine one_ (i := 2) (N := some 42) #[true, true, true, false, false] rfl rfl (by kernel_rfl) (by decide) (fun K hK => ?_)
      refine goes_ Try.func28 (by kernel_rfl) rfl #[.agg #[.int .i64 a1_0, .int .i64 a1_1, .int .i64 a1_2, .slice A1_3 l1_3.length c1_3, .slice A1_4 l1_4.length c1_4, .int .i64 a1_5, .int .i64 a1_6, .slice A1_7 l1_7.length c1_7, .slice A1_8 l1_8.length c1_8, .slice A1_9 l1_9.length c1_9]] (by rfl) rfl rfl (by (try simp only [List.map_toArray, List.map_cons, List.map_nil]); first | done | rfl | (simp only [List.length_drop, List.length_take]; rfl)) ?_
      with_reducible refine (laws_toHead.calls k a1_0 a1_1 a1_2 _ _ l1_3 _ _ l1_4 a1_5 a1_6 _ _ l1_7 _ _ l1_8 _ _ l1_9 t306 t307 t308 t309 t312 t315 t316 t317 t320 t323 _ ?side1 ?side2 ?side3 ?side4 ?side5 ?side6 ?side7 ?side8 ?side9 ?side10 A27.out).mono ?_
      (case side1 => repeat (first | exact (Kd.C_below HR1_3.out HB.out) | (with_reducible refine Kd.C_alloc ?_ _) | (with_reducible refine Kd.C_drewN ?_ _) | (with_reducible refine Kd.C_drew ?_)))
      (case side2 => exact HC1_3.out)
      (case side3 => repeat (first | exact (Kd.C_below HR1_4.out HB.out) | (with_reducible refine Kd.C_alloc ?_ _) | (with_reducible refine Kd.C_drewN ?_ _) | (with_reducible refine Kd.C_drew ?_)))
      (case side4 => exact HC1_4.out)
      (case side5 => repeat (first | exact (Kd.C_below HR1_7.out HB.out) | (with_reducible refine Kd.C_alloc ?_ _) | (with_reducible refine Kd.C_drewN ?_ _) | (with_reducible refine Kd.C_drew ?_)))
      (case side6 => exact HC1_7.out)
      (case side7 => repeat (first | exact (Kd.C_below HR1_8.out HB.out) | (with_reducible refine Kd.C_alloc ?_ _) | (with_reducible refine Kd.C_drewN ?_ _) | (with_reducible refine Kd.C_drew ?_)))
      (case side8 => exact HC1_8.out)
      (case side9 => repeat (first | exact (Kd.C_below HR1_9.out HB.out) | (with_reducible refine Kd.C_alloc ?_ _) | (with_reducible refine Kd.C_drewN ?_ _) | (with_reducible refine Kd.C_drew ?_)))
      (case side10 => exact HC1_9.out)
      rintro e w79 ⟨v310, v313, v318, v321, v324, rfl, ho0, ho1, ho2, ho3, ho4, hb⟩
      refine ⟨_, rfl, ?_⟩
      have n0_ := Aside0.mk (Kd.R_mono (Kd.R_told (Kd.R_told (Kd.R_told (Kd.R_told (Kd.R_old (Kd.R_mv HO206) hb) (Kd.R_base ho0)) (Kd.R_base ho1)) (Kd.R_base ho2)) (Kd.R_base ho3)) (fun _ h_ => h_.1))
      have n1_ := Aside0.mk (Kd.R_mono (Kd.R_told (Kd.R_told (Kd.R_told (Kd.R_told (Kd.R_old (Kd.R_mv HO209) hb) (Kd.R_base ho0)) (Kd.R_base ho1)) (Kd.R_base ho2)) (Kd.R_base ho3)) (fun _ h_ => h_.1))
      have n2_ := Aside0.mk (Kd.R_mono (Kd.R_told (Kd.R_told (Kd.R_told (Kd.R_told (Kd.R_old (Kd.R_mv HO214) hb) (Kd.R_base ho0)) (Kd.R_base ho1)) (Kd.R_base ho2)) (Kd.R_base ho3)) (fun _ h_ => h_.1))
      have n3_ := Aside0.mk (Kd.R_mono (Kd.R_told (Kd.R_told (Kd.R_told (Kd.R_told (Kd.R_old (Kd.R_mv HO217) hb) (Kd.R_base ho0)) (Kd.R_base ho1)) (Kd.R_base ho2)) (Kd.R_base ho3)) (fun _ h_ => h_.1))
      have n4_ := Aside0.mk (Kd.S_mono (Kd.S_told (Kd.S_told (Kd.S_told (Kd.S_told (Kd.S_told (Kd.S_old (Kd.S_mv HO220) hb) (Kd.R_base ho0)) (Kd.R_base ho1)) (Kd.R_base ho2)) (Kd.R_base ho3)) (Kd.S_base ho4)) (fun _ h_ => h_.1))
      have n5_ := Aside0.mk (Kd.R_mono (Kd.R_told (Kd.R_told (Kd.R_told (Kd.R_told (Kd.R_old (Kd.R_mv HO226) hb) (Kd.R_base ho0)) (Kd.R_base ho1)) (Kd.R_base ho2)) (Kd.R_base ho3)) (fun _ h_ => h_.1))
      have n6_ := Aside0.mk (Kd.R_mono (Kd.R_told (Kd.R_told (Kd.R_told (Kd.R_told (Kd.R_old (Kd.R_mv HO229) hb) (Kd.R_base ho0)) (Kd.R_base ho1)) (Kd.R_base ho2)) (Kd.R_base ho3)) (fun _ h_ => h_.1))
      have n7_ := Aside0.mk (Kd.R_mono (Kd.R_told (Kd.R_told (Kd.R_told (Kd.R_told (Kd.R_old (Kd.R_mv HO234) hb) (Kd.R_base ho0)) (Kd.R_base ho1)) (Kd.R_base ho2)) (Kd.R_base ho3)) (fun _ h_ => h_.1))
      have n8_ := Aside0.mk (Kd.R_mono (Kd.R_told (Kd.R_told (Kd.R_told (Kd.R_told (Kd.R_old (Kd.R_mv HO237) hb) (Kd.R_base ho0)) (Kd.R_base ho1)) (Kd.R_base ho2)) (Kd.R_base ho3)) (fun _ h_ => h_.1))
      have n9_ := Aside0.mk (Kd.S_mono (Kd.S_told (Kd.S_told (Kd.S_told (Kd.S_told (Kd.S_told (Kd.S_old (Kd.S_mv HO240) hb) (Kd.R_base ho0)) (Kd.R_base ho1)) (Kd.R_base ho2)) (Kd.R_base ho3)) (Kd.S_base ho4)) (fun _ h_ => h_.1))
      have n10_ := Aside0.mk (Kd.R_mono (Kd.R_told (Kd.R_told (Kd.R_told (Kd.R_told (Kd.R_old (Kd.R_mv HO247) hb) (Kd.R_base ho0)) (Kd.R_base ho1)) (Kd.R_base ho2)) (Kd.R_base ho3)) (fun _ h_ => h_.1))
      have n11_ := Aside0.mk (Kd.R_mono (Kd.R_told (Kd.R_told (Kd.R_told (Kd.R_told (Kd.R_old (Kd.R_mv HO250) hb) (Kd.R_base ho0)) (Kd.R_base ho1)) (Kd.R_base ho2)) (Kd.R_base ho3)) (fun _ h_ => h_.1))
      have n12_ := Aside0.mk (Kd.R_mono (Kd.R_told (Kd.R_told (Kd.R_told (Kd.R_told (Kd.R_old (Kd.R_mv HO255) hb) (Kd.R_base ho0)) (Kd.R_base ho1)) (Kd.R_base ho2)) (Kd.R_base ho3)) (fun _ h_ => h_.1))
      have n13_ := Aside0.mk (Kd.R_mono (Kd.R_told (Kd.R_told (Kd.R_told (Kd.R_told (Kd.R_old (Kd.R_mv HO258) hb) (Kd.R_base ho0)) (Kd.R_base ho1)) (Kd.R_base ho2)) (Kd.R_base ho3)) (fun _ h_ => h_.1))
      have n14_ := Aside0.mk (Kd.S_mono (Kd.S_told (Kd.S_told (Kd.S_told (Kd.S_told (Kd.S_told (Kd.S_old (Kd.S_mv HO261) hb) (Kd.R_base ho0)) (Kd.R_base ho1)) (Kd.R_base ho2)) (Kd.R_base ho3)) (Kd.S_base ho4)) (fun _ h_ => h_.1))
      have n15_ := Aside0.mk (Kd.R_mono (Kd.R_told (Kd.R_told (Kd.R_told (Kd.R_told (Kd.R_old (Kd.R_mv HO268) hb) (Kd.R_base ho0)) (Kd.R_base ho1)) (Kd.R_base ho2)) (Kd.R_base ho3)) (fun _ h_ => h_.1))
      have n16_ := Aside0.mk (Kd.R_mono (Kd.R_told (Kd.R_told (Kd.R_told (Kd.R_told (Kd.R_old (Kd.R_mv HO271) hb) (Kd.R_base ho0)) (Kd.R_base ho1)) (Kd.R_base ho2)) (Kd.R_base ho3)) (fun _ h_ => h_.1))
      have n17_ := Aside0.mk (Kd.R_mono (Kd.R_told (Kd.R_told (Kd.R_told (Kd.R_told (Kd.R_old (Kd.R_mv HO276) hb) (Kd.R_base ho0)) (Kd.R_base ho1)) (Kd.R_base ho2)) (Kd.R_base ho3)) (fun _ h_ => h_.1))
      have n18_ := Aside0.mk (Kd.R_mono (Kd.R_told (Kd.R_told (Kd.R_told (Kd.R_told (Kd.R_old (Kd.R_mv HO279) hb) (Kd.R_base ho0)) (Kd.R_base ho1)) (Kd.R_base ho2)) (Kd.R_base ho3)) (fun _ h_ => h_.1))
      have n19_ := Aside0.mk (Kd.S_mono (Kd.S_told (Kd.S_told (Kd.S_told (Kd.S_told (Kd.S_told (Kd.S_old (Kd.S_mv HO282) hb) (Kd.R_base ho0)) (Kd.R_base ho1)) (Kd.R_base ho2)) (Kd.R_base ho3)) (Kd.S_base ho4)) (fun _ h_ => h_.1))
      have n20_ := Aside0.mk (Kd.R_mono (Kd.R_told (Kd.R_told (Kd.R_told (Kd.R_told (Kd.R_old (Kd.R_mv HO290) hb) (Kd.R_base ho0)) (Kd.R_base ho1)) (Kd.R_base ho2)) (Kd.R_base ho3)) (fun _ h_ => h_.1))
      have n21_ := Aside0.mk (Kd.R_mono (Kd.R_told (Kd.R_told (Kd.R_told (Kd.R_told (Kd.R_old (Kd.R_mv HO293) hb) (Kd.R_base ho0)) (Kd.R_base ho1)) (Kd.R_base ho2)) (Kd.R_base ho3)) (fun _ h_ => h_.1))
      have n22_ := Aside0.mk (Kd.R_mono (Kd.R_told (Kd.R_told (Kd.R_told (Kd.R_told (Kd.R_old (Kd.R_mv HO298) hb) (Kd.R_base ho0)) (Kd.R_base ho1)) (Kd.R_base ho2)) (Kd.R_base ho3)) (fun _ h_ => h_.1))
      have n23_ := Aside0.mk (Kd.R_mono (Kd.R_told (Kd.R_told (Kd.R_told (Kd.R_told (Kd.R_old (Kd.R_mv HO301) hb) (Kd.R_base ho0)) (Kd.R_base ho1)) (Kd.R_base ho2)) (Kd.R_base ho3)) (fun _ h_ => h_.1))
      have n24_ := Aside0.mk (Kd.S_mono (Kd.S_told (Kd.S_told (Kd.S_told (Kd.S_told (Kd.S_told (Kd.S_old (Kd.S_mv HO304) hb) (Kd.R_base ho0)) (Kd.R_base ho1)) (Kd.R_base ho2)) (Kd.R_base ho3)) (Kd.S_base ho4)) (fun _ h_ => h_.1))
      have n25_ := Aside0.mk (Kd.R_lower (Kd.R_new' (Kd.R_new' (Kd.R_new' (Kd.R_new' (Kd.R_new' (Kd.R_new' (Kd.R_new' (Kd.R_new' (Kd.R_new' (Kd.R_new' (Kd.R_new' (Kd.R_new' (Kd.R_new' (Kd.R_new' (Kd.R_new' (Kd.R_new' (Kd.R_new' (Kd.R_new' (Kd.R_new' (Kd.R_new' ho0 (Kd.R_lt (Kd.R_mv HO206))) (Kd.R_lt (Kd.R_mv HO209))) (Kd.R_lt (Kd.R_mv HO214))) (Kd.R_lt (Kd.R_mv HO217))) (Kd.R_lt (Kd.R_mv HO226))) (Kd.R_lt (Kd.R_mv HO229))) (Kd.R_lt (Kd.R_mv HO234))) (Kd.R_lt (Kd.R_mv HO237))) (Kd.R_lt (Kd.R_mv HO247))) (Kd.R_lt (Kd.R_mv HO250))) (Kd.R_lt (Kd.R_mv HO255))) (Kd.R_lt (Kd.R_mv HO258))) (Kd.R_lt (Kd.R_mv HO268))) (Kd.R_lt (Kd.R_mv HO271))) (Kd.R_lt (Kd.R_mv HO276))) (Kd.R_lt (Kd.R_mv HO279))) (Kd.R_lt (Kd.R_mv HO290))) (Kd.R_lt (Kd.R_mv HO293))) (Kd.R_lt (Kd.R_mv HO298))) (Kd.R_lt (Kd.R_mv HO301))) (below_size (by repeat (first | (with_reducible first | exact HB.out | apply below_alloc | apply pw_below_drewN | apply below_drew1 | refine below_set ?_ GE197.out | refine below_set ?_ GE198.out | refine below_set ?_ GE262.out | refine below_set ?_ GE283.out) | exact HB.out))))
      have n26_ := Aside0.mk (Kd.R_lower (Kd.R_new' (Kd.R_new' (Kd.R_new' (Kd.R_new' (Kd.R_new' (Kd.R_new' (Kd.R_new' (Kd.R_new' (Kd.R_new' (Kd.R_new' (Kd.R_new' (Kd.R_new' (Kd.R_new' (Kd.R_new' (Kd.R_new' (Kd.R_new' (Kd.R_new' (Kd.R_new' (Kd.R_new' (Kd.R_new' ho1 (Kd.R_lt (Kd.R_mv HO206))) (Kd.R_lt (Kd.R_mv HO209))) (Kd.R_lt (Kd.R_mv HO214))) (Kd.R_lt (Kd.R_mv HO217))) (Kd.R_lt (Kd.R_mv HO226))) (Kd.R_lt (Kd.R_mv HO229))) (Kd.R_lt (Kd.R_mv HO234))) (Kd.R_lt (Kd.R_mv HO237))) (Kd.R_lt (Kd.R_mv HO247))) (Kd.R_lt (Kd.R_mv HO250))) (Kd.R_lt (Kd.R_mv HO255))) (Kd.R_lt (Kd.R_mv HO258))) (Kd.R_lt (Kd.R_mv HO268))) (Kd.R_lt (Kd.R_mv HO271))) (Kd.R_lt (Kd.R_mv HO276))) (Kd.R_lt (Kd.R_mv HO279))) (Kd.R_lt (Kd.R_mv HO290))) (Kd.R_lt (Kd.R_mv HO293))) (Kd.R_lt (Kd.R_mv HO298))) (Kd.R_lt (Kd.R_mv HO301))) (below_size (by repeat (first | (with_reducible first | exact HB.out | apply below_alloc | apply pw_below_drewN | apply below_drew1 | refine below_set ?_ GE197.out | refine below_set ?_ GE198.out | refine below_set ?_ GE262.out | refine below_set ?_ GE283.out) | exact HB.out))))
      have n27_ := Aside0.mk (Kd.R_lower (Kd.R_new' (Kd.R_new' (Kd.R_new' (Kd.R_new' (Kd.R_new' (Kd.R_new' (Kd.R_new' (Kd.R_new' (Kd.R_new' (Kd.R_new' (Kd.R_new' (Kd.R_new' (Kd.R_new' (Kd.R_new' (Kd.R_new' (Kd.R_new' (Kd.R_new' (Kd.R_new' (Kd.R_new' (Kd.R_new' ho2 (Kd.R_lt (Kd.R_mv HO206))) (Kd.R_lt (Kd.R_mv HO209))) (Kd.R_lt (Kd.R_mv HO214))) (Kd.R_lt (Kd.R_mv HO217))) (Kd.R_lt (Kd.R_mv HO226))) (Kd.R_lt (Kd.R_mv HO229))) (Kd.R_lt (Kd.R_mv HO234))) (Kd.R_lt (Kd.R_mv HO237))) (Kd.R_lt (Kd.R_mv HO247))) (Kd.R_lt (Kd.R_mv HO250))) (Kd.R_lt (Kd.R_mv HO255))) (Kd.R_lt (Kd.R_mv HO258))) (Kd.R_lt (Kd.R_mv HO268))) (Kd.R_lt (Kd.R_mv HO271))) (Kd.R_lt (Kd.R_mv HO276))) (Kd.R_lt (Kd.R_mv HO279))) (Kd.R_lt (Kd.R_mv HO290))) (Kd.R_lt (Kd.R_mv HO293))) (Kd.R_lt (Kd.R_mv HO298))) (Kd.R_lt (Kd.R_mv HO301))) (below_size (by repeat (first | (with_reducible first | exact HB.out | apply below_alloc | apply pw_below_drewN | apply below_drew1 | refine below_set ?_ GE197.out | refine below_set ?_ GE198.out | refine below_set ?_ GE262.out | refine below_set ?_ GE283.out) | exact HB.out))))
      have n28_ := Aside0.mk (Kd.R_lower (Kd.R_new' (Kd.R_new' (Kd.R_new' (Kd.R_new' (Kd.R_new' (Kd.R_new' (Kd.R_new' (Kd.R_new' (Kd.R_new' (Kd.R_new' (Kd.R_new' (Kd.R_new' (Kd.R_new' (Kd.R_new' (Kd.R_new' (Kd.R_new' (Kd.R_new' (Kd.R_new' (Kd.R_new' (Kd.R_new' ho3 (Kd.R_lt (Kd.R_mv HO206))) (Kd.R_lt (Kd.R_mv HO209))) (Kd.R_lt (Kd.R_mv HO214))) (Kd.R_lt (Kd.R_mv HO217))) (Kd.R_lt (Kd.R_mv HO226))) (Kd.R_lt (Kd.R_mv HO229))) (Kd.R_lt (Kd.R_mv HO234))) (Kd.R_lt (Kd.R_mv HO237))) (Kd.R_lt (Kd.R_mv HO247))) (Kd.R_lt (Kd.R_mv HO250))) (Kd.R_lt (Kd.R_mv HO255))) (Kd.R_lt (Kd.R_mv HO258))) (Kd.R_lt (Kd.R_mv HO268))) (Kd.R_lt (Kd.R_mv HO271))) (Kd.R_lt (Kd.R_mv HO276))) (Kd.R_lt (Kd.R_mv HO279))) (Kd.R_lt (Kd.R_mv HO290))) (Kd.R_lt (Kd.R_mv HO293))) (Kd.R_lt (Kd.R_mv HO298))) (Kd.R_lt (Kd.R_mv HO301))) (below_size (by repeat (first | (with_reducible first | exact HB.out | apply below_alloc | apply pw_below_drewN | apply below_drew1 | refine below_set ?_ GE197.out | refine below_set ?_ GE198.out | refine below_set ?_ GE262.out | refine below_set ?_ GE283.out) | exact HB.out))))
      have n29_ := Aside0.mk (Kd.S_lower (Kd.S_new' (Kd.S_new' (Kd.S_new' (Kd.S_new' (Kd.S_new' (Kd.S_new' (Kd.S_new' (Kd.S_new' (Kd.S_new' (Kd.S_new' (Kd.S_new' (Kd.S_new' (Kd.S_new' (Kd.S_new' (Kd.S_new' (Kd.S_new' (Kd.S_new' (Kd.S_new' (Kd.S_new' (Kd.S_new' (Kd.S_new' (Kd.S_new' (Kd.S_new' (Kd.S_new' (Kd.S_new' ho4 (Kd.R_lt (Kd.R_mv HO206))) (Kd.R_lt (Kd.R_mv HO209))) (Kd.R_lt (Kd.R_mv HO214))) (Kd.R_lt (Kd.R_mv HO217))) (Kd.S_lt (Kd.S_mv HO220))) (Kd.R_lt (Kd.R_mv HO226))) (Kd.R_lt (Kd.R_mv HO229))) (Kd.R_lt (Kd.R_mv HO234))) (Kd.R_lt (Kd.R_mv HO237))) (Kd.S_lt (Kd.S_mv HO240))) (Kd.R_lt (Kd.R_mv HO247))) (Kd.R_lt (Kd.R_mv HO250))) (Kd.R_lt (Kd.R_mv HO255))) (Kd.R_lt (Kd.R_mv HO258))) (Kd.S_lt (Kd.S_mv HO261))) (Kd.R_lt (Kd.R_mv HO268))) (Kd.R_lt (Kd.R_mv HO271))) (Kd.R_lt (Kd.R_mv HO276))) (Kd.R_lt (Kd.R_mv HO279))) (Kd.S_lt (Kd.S_mv HO282))) (Kd.R_lt (Kd.R_mv HO290))) (Kd.R_lt (Kd.R_mv HO293))) (Kd.R_lt (Kd.R_mv HO298))) (Kd.R_lt (Kd.R_mv HO301))) (Kd.S_lt (Kd.S_mv HO304))) (below_size (by repeat (first | (with_reducible first | exact HB.out | apply below_alloc | apply pw_below_drewN | apply below_drew1 | refine below_set ?_ GE197.out | refine below_set ?_ GE198.out | refine below_set ?_ GE262.out | refine below_set ?_ GE283.out) | exact HB.out))))
      have n30_ := Aside0.mk (blk_below (g := gb197) (o := .cells #[.int .i64 a0_0, .int .i64 a0_1, .int .i64 a0_2, .slice A0_3 l0_3.length c0_3, .slice A0_4 l0_4.length c0_4, .int .i64 a0_5, .int .i64 a0_6, .slice A0_7 l0_7.length c0_7, .slice A0_8 l0_8.length c0_8, .slice A0_9 l0_9.length c0_9] 50 (0, 0)) (blk_mv BK197) hb)
      have n31_ := Aside0.mk (blk_below (g := gb198) (o := .cells #[.int .i64 a1_0, .int .i64 a1_1, .int .i64 a1_2, .slice A1_3 l1_3.length c1_3, .slice A1_4 l1_4.length c1_4, .int .i64 a1_5, .int .i64 a1_6, .slice A1_7 l1_7.length c1_7, .slice A1_8 l1_8.length c1_8, .slice A1_9 l1_9.length c1_9] 50 (0, 0)) (blk_mv BK198) hb)
      have n32_ := Aside0.mk (blk_below (g := gb262) (o := .cells #[.int .i64 t242, .int .i64 t243, .int .i64 t244, .slice Ao51 t245.length co51, .slice Ao52 t248.length co52, .int .i64 t251, .int .i64 t252, .slice Ao53 t253.length co53, .slice Ao54 t256.length co54, .slice Ao55 t259.length co55] 55 (0, 0)) (blk_mv BK262) hb)
      have n33_ := Aside0.mk (blk_below (g := gb283) (o := .cells #[.int .i64 t263, .int .i64 t264, .int .i64 t265, .slice Ao63 t266.length co63, .slice Ao64 t269.length co64, .int .i64 t272, .int .i64 t273, .slice Ao65 t274.length co65, .slice Ao66 t277.length co66, .slice Ao67 t280.length co67] 55 (0, 0)) (blk_mv BK283) hb)
      have n34_ := Aside0.mk (below_step (by repeat (first | (with_reducible first | exact HB.out | apply below_alloc | apply pw_below_drewN | apply below_drew1 | refine below_set ?_ GE197.out | refine below_set ?_ GE198.out | refine below_set ?_ GE262.out | refine below_set ?_ GE283.out) | exact HB.out)) hb)
      clear HO206
      clear HO209
      clear HO214
      clear HO217
      clear HO220
      clear HO226
      clear HO229
      clear HO234
      clear HO237
      clear HO240
      clear HO247
      clear HO250
      clear HO255
      clear HO258
      clear HO261
      clear HO268
      clear HO271
      clear HO276
      clear HO279
      clear HO282
      clear HO290
      clear HO293
      clear HO298
      clear HO301
      clear HO304
      clear BK197
      clear BK198
      clear BK262
      clear BK283
      clear HB
      have HO206 := n0_
      have HO209 := n1_
      have HO214 := n2_
      have HO217 := n3_
      have HO220 := n4_
      have HO226 := n5_
      have HO229 := n6_
      have HO234 := n7_
      have HO237 := n8_
      have HO240 := n9_
      have HO247 := n10_
      have HO250 := n11_
      have HO255 := n12_
      have HO258 := n13_
      have HO261 := n14_
      have HO268 := n15_
      have HO271 := n16_
      have HO276 := n17_
      have HO279 := n18_
      have HO282 := n19_
      have HO290 := n20_
      have HO293 := n21_
      have HO298 := n22_
      have HO301 := n23_
      have HO304 := n24_
      have HO311 := n25_
      have HO314 := n26_
      have HO319 := n27_
      have HO322 := n28_
      have HO325 := n29_
      have BK197 := n30_
      have BK198 := n31_
      have BK262 := n32_
      have BK283 := n33_
      have HB := n34_
      clear n0_ n1_ n2_ n3_ n4_ n5_ n6_ n7_ n8_ n9_ n10_ n11_ n12_ n13_ n14_ n15_ n16_ n17_ n18_ n19_ n20_ n21_ n22_ n23_ n24_ n25_ n26_ n27_ n28_ n29_ n30_ n31_ n32_ n33_ n34_
      (try clear hb)
      (try clear hb2)
      (try clear hk)
      (try clear hi)
      (try clear ho0)
      (try clear ho1)
      (try clear ho2)
      (try clear ho3)
      (try clear ho4)
      obtain ⟨Ao80, co80, eo80⟩ := Kd.R_slice HO311.out
      (first | subst eo80 | (injection eo80 with f1_ f2_ f3_; have f4_ := f1_.symm; have f5_ := f3_.symm; clear f1_ f2_ f3_; subst f4_; subst f5_))
      obtain ⟨Ao81, co81, eo81⟩ := Kd.R_slice HO314.out
      (first | subst eo81 | (injection eo81 with f1_ f2_ f3_; have f4_ := f1_.symm; have f5_ := f3_.symm; clear f1_ f2_ f3_; subst f4_; subst f5_))
      obtain ⟨Ao82, co82, eo82⟩ := Kd.R_slice HO319.out
      (first | subst eo82 | (injection eo82 with f1_ f2_ f3_; have f4_ := f1_.symm; have f5_ := f3_.symm; clear f1_ f2_ f3_; subst f4_; subst f5_))
      obtain ⟨Ao83, co83, eo83⟩ := Kd.R_slice HO322.out
      (first | subst eo83 | (injection eo83 with f1_ f2_ f3_; have f4_ := f1_.symm; have f5_ := f3_.symm; clear f1_ f2_ f3_; subst f4_; subst f5_))
      obtain ⟨Ao84, co84, eo84⟩ := Kd.S_slice HO325.out
      (first | subst eo84 | (injection eo84 with f1_ f2_ f3_; have f4_ := f1_.symm; have f5_ := f3_.symm; clear f1_ f2_ f3_; subst f4_; subst f5_))
      refine hK.out _ _ ⟨(blk_cell BK283.out 0).trans rfl, (blk_cell BK283.out 1).trans rfl, (blk_cell BK283.out 2).trans rfl, (blk_cell BK283.out 3).trans rfl, (blk_cell BK283.out 4).trans rfl, (blk_cell BK283.out 5).trans rfl, (blk_cell BK283.out 6).trans rfl, (blk_cell BK283.out 7).trans rfl, (blk_cell BK283.out 8).trans rfl, (blk_cell BK283.out 9).trans rfl, (blk_cell BK198.out 0).trans rfl, (blk_cell BK198.out 1).trans rfl, (blk_cell BK198.out 2).trans rfl, (blk_cell BK198.out 3).trans rfl, (blk_cell BK198.out 4).trans rfl, (blk_cell BK198.out 5).trans rfl, (blk_cell BK198.out 6).trans rfl, (blk_cell BK198.out 7).trans rfl, (blk_cell BK198.out 8).trans rfl, (blk_cell BK198.out 9).trans rfl⟩ (fun hHeld => ?_)
      clear hK K
      refine norm_ (a' := ?_) ?_ ?_
      rotate_left
      ·show Act.put _ (some 42) _ = _
       simp only [Act.put, List.setIfInBounds_toArray, List.set_cons_zero, List.set_cons_succ, i64_w, i32_w]
       rfl
      refine one_ (i := 3) (N := some 43) #[true, true, true, true, false] rfl rfl (by kernel_rfl) (by decide) (fun K hK => ?_)
      refine goes_ Try.func30 (by kernel_rfl) rfl #[.agg #[.int .i64 t263, .int .i64 t264, .int .i64 t265, .slice Ao63 t266.length co63, .slice Ao64 t269.length co64, .int .i64 t272, .int .i64 t273, .slice Ao65 t274.length co65, .slice Ao66 t277.length co66, .slice Ao67 t280.length co67], .agg #[.int .i64 t306, .int .i64 t307, .int .i64 t308, .slice Ao80 t309.length co80, .slice Ao81 t312.length co81, .int .i64 t315, .int .i64 t316, .slice Ao82 t317.length co82, .slice Ao83 t320.length co83, .slice Ao84 t323.length co84]] (by rfl) rfl rfl (by (try simp only [List.map_toArray, List.map_cons, List.map_nil]); first | done | rfl | (simp only [List.length_drop, List.length_take]; rfl)) ?_
      with_reducible refine (laws_eqHead.calls k t263 t264 t265 _ _ t266 _ _ t269 t272 t273 _ _ t274 _ _ t277 _ _ t280 t306 t307 t308 _ _ t309 _ _ t312 t315 t316 _ _ t317 _ _ t320 _ _ t323 true _ ?side1 ?side2 ?side3 ?side4 ?side5 ?side6 ?side7 ?side8 ?side9 ?side10 ?side11 ?side12 ?side13 ?side14 ?side15 ?side16 ?side17 ?side18 ?side19 ?side20 A28.out).mono ?_
      (case side1 => repeat (first | exact (Kd.R_reads' HO268.out).2.2 | (with_reducible refine Kd.C_alloc ?_ _) | (with_reducible refine Kd.C_drewN ?_ _) | (with_reducible refine Kd.C_drew ?_)))
      (case side2 => exact (Kd.R_reads' HO268.out).2.1)
      (case side3 => repeat (first | exact (Kd.R_reads' HO271.out).2.2 | (with_reducible refine Kd.C_alloc ?_ _) | (with_reducible refine Kd.C_drewN ?_ _) | (with_reducible refine Kd.C_drew ?_)))
      (case side4 => exact (Kd.R_reads' HO271.out).2.1)
      (case side5 => repeat (first | exact (Kd.R_reads' HO276.out).2.2 | (with_reducible refine Kd.C_alloc ?_ _) | (with_reducible refine Kd.C_drewN ?_ _) | (with_reducible refine Kd.C_drew ?_)))
      (case side6 => exact (Kd.R_reads' HO276.out).2.1)
      (case side7 => repeat (first | exact (Kd.R_reads' HO279.out).2.2 | (with_reducible refine Kd.C_alloc ?_ _) | (with_reducible refine Kd.C_drewN ?_ _) | (with_reducible refine Kd.C_drew ?_)))
      (case side8 => exact (Kd.R_reads' HO279.out).2.1)
      (case side9 => repeat (first | exact (Kd.S_reads' HO282.out).2.2 | (with_reducible refine Kd.C_alloc ?_ _) | (with_reducible refine Kd.C_drewN ?_ _) | (with_reducible refine Kd.C_drew ?_)))
      (case side10 => exact (Kd.S_reads' HO282.out).2.1)
      (case side11 => repeat (first | exact (Kd.R_reads' HO311.out).2.2 | (with_reducible refine Kd.C_alloc ?_ _) | (with_reducible refine Kd.C_drewN ?_ _) | (with_reducible refine Kd.C_drew ?_)))
      (case side12 => exact (Kd.R_reads' HO311.out).2.1)
      (case side13 => repeat (first | exact (Kd.R_reads' HO314.out).2.2 | (with_reducible refine Kd.C_alloc ?_ _) | (with_reducible refine Kd.C_drewN ?_ _) | (with_reducible refine Kd.C_drew ?_)))
      (case side14 => exact (Kd.R_reads' HO314.out).2.1)
      (case side15 => repeat (first | exact (Kd.R_reads' HO319.out).2.2 | (with_reducible refine Kd.C_alloc ?_ _) | (with_reducible refine Kd.C_drewN ?_ _) | (with_reducible refine Kd.C_drew ?_)))
      (case side16 => exact (Kd.R_reads' HO319.out).2.1)
      (case side17 => repeat (first | exact (Kd.R_reads' HO322.out).2.2 | (with_reducible refine Kd.C_alloc ?_ _) | (with_reducible refine Kd.C_drewN ?_ _) | (with_reducible refine Kd.C_drew ?_)))
      (case side18 => exact (Kd.R_reads' HO322.out).2.1)
      (case side19 => repeat (first | exact (Kd.S_reads' HO325.out).2.2 | (with_reducible refine Kd.C_alloc ?_ _) | (with_reducible refine Kd.C_drewN ?_ _) | (with_reducible refine Kd.C_drew ?_)))
      (case side20 => exact (Kd.S_reads' HO325.out).2.1)
      rintro e w85 ⟨rfl, hb⟩
      refine ⟨_, rfl, ?_⟩
      have n0_ := Aside0.mk (Kd.R_below (Kd.R_mv HO206) hb)
      have n1_ := Aside0.mk (Kd.R_below (Kd.R_mv HO209) hb)
      have n2_ := Aside0.mk (Kd.R_below (Kd.R_mv HO214) hb)
      have n3_ := Aside0.mk (Kd.R_below (Kd.R_mv HO217) hb)
      have n4_ := Aside0.mk (Kd.S_below (Kd.S_mv HO220) hb)
      have n5_ := Aside0.mk (Kd.R_below (Kd.R_mv HO226) hb)
      have n6_ := Aside0.mk (Kd.R_below (Kd.R_mv HO229) hb)
      have n7_ := Aside0.mk (Kd.R_below (Kd.R_mv HO234) hb)
      have n8_ := Aside0.mk (Kd.R_below (Kd.R_mv HO237) hb)
      have n9_ := Aside0.mk (Kd.S_below (Kd.S_mv HO240) hb)
      have n10_ := Aside0.mk (Kd.R_below (Kd.R_mv HO247) hb)
      have n11_ := Aside0.mk (Kd.R_below (Kd.R_mv HO250) hb)
      have n12_ := Aside0.mk (Kd.R_below (Kd.R_mv HO255) hb)
      have n13_ := Aside0.mk (Kd.R_below (Kd.R_mv HO258) hb)
      have n14_ := Aside0.mk (Kd.S_below (Kd.S_mv HO261) hb)
      have n15_ := Aside0.mk (Kd.R_below (Kd.R_mv HO268) hb)
      have n16_ := Aside0.mk (Kd.R_below (Kd.R_mv HO271) hb)
      have n17_ := Aside0.mk (Kd.R_below (Kd.R_mv HO276) hb)
      have n18_ := Aside0.mk (Kd.R_below (Kd.R_mv HO279) hb)
      have n19_ := Aside0.mk (Kd.S_below (Kd.S_mv HO282) hb)
      have n20_ := Aside0.mk (Kd.R_below (Kd.R_mv HO290) hb)
      have n21_ := Aside0.mk (Kd.R_below (Kd.R_mv HO293) hb)
      have n22_ := Aside0.mk (Kd.R_below (Kd.R_mv HO298) hb)
      have n23_ := Aside0.mk (Kd.R_below (Kd.R_mv HO301) hb)
      have n24_ := Aside0.mk (Kd.S_below (Kd.S_mv HO304) hb)
      have n25_ := Aside0.mk (Kd.R_below (Kd.R_mv HO311) hb)
      have n26_ := Aside0.mk (Kd.R_below (Kd.R_mv HO314) hb)
      have n27_ := Aside0.mk (Kd.R_below (Kd.R_mv HO319) hb)
      have n28_ := Aside0.mk (Kd.R_below (Kd.R_mv HO322) hb)
      have n29_ := Aside0.mk (Kd.S_below (Kd.S_mv HO325) hb)
      have n30_ := Aside0.mk (blk_below (g := gb197) (o := .cells #[.int .i64 a0_0, .int .i64 a0_1, .int .i64 a0_2, .slice A0_3 l0_3.length c0_3, .slice A0_4 l0_4.length c0_4, .int .i64 a0_5, .int .i64 a0_6, .slice A0_7 l0_7.length c0_7, .slice A0_8 l0_8.length c0_8, .slice A0_9 l0_9.length c0_9] 50 (0, 0)) (blk_mv BK197) hb)
      have n31_ := Aside0.mk (blk_below (g := gb198) (o := .cells #[.int .i64 a1_0, .int .i64 a1_1, .int .i64 a1_2, .slice A1_3 l1_3.length c1_3, .slice A1_4 l1_4.length c1_4, .int .i64 a1_5, .int .i64 a1_6, .slice A1_7 l1_7.length c1_7, .slice A1_8 l1_8.length c1_8, .slice A1_9 l1_9.length c1_9] 50 (0, 0)) (blk_mv BK198) hb)
      have n32_ := Aside0.mk (blk_below (g := gb262) (o := .cells #[.int .i64 t242, .int .i64 t243, .int .i64 t244, .slice Ao51 t245.length co51, .slice Ao52 t248.length co52, .int .i64 t251, .int .i64 t252, .slice Ao53 t253.length co53, .slice Ao54 t256.length co54, .slice Ao55 t259.length co55] 55 (0, 0)) (blk_mv BK262) hb)
      have n33_ := Aside0.mk (blk_below (g := gb283) (o := .cells #[.int .i64 t263, .int .i64 t264, .int .i64 t265, .slice Ao63 t266.length co63, .slice Ao64 t269.length co64, .int .i64 t272, .int .i64 t273, .slice Ao65 t274.length co65, .slice Ao66 t277.length co66, .slice Ao67 t280.length co67] 55 (0, 0)) (blk_mv BK283) hb)
      have n34_ := Aside0.mk (below_step (by repeat (first | (with_reducible first | exact HB.out | apply below_alloc | apply pw_below_drewN | apply below_drew1 | refine below_set ?_ GE197.out | refine below_set ?_ GE198.out | refine below_set ?_ GE262.out | refine below_set ?_ GE283.out) | exact HB.out)) hb)
      clear HO206
      clear HO209
      clear HO214
      clear HO217
      clear HO220
      clear HO226
      clear HO229
      clear HO234
      clear HO237
      clear HO240
      clear HO247
      clear HO250
      clear HO255
      clear HO258
      clear HO261
      clear HO268
      clear HO271
      clear HO276
      clear HO279
      clear HO282
      clear HO290
      clear HO293
      clear HO298
      clear HO301
      clear HO304
      clear HO311
      clear HO314
      clear HO319
      clear HO322
      clear HO325
      clear BK197
      clear BK198
      clear BK262
      clear BK283
      clear HB
      have HO206 := n0_
      have HO209 := n1_
      have HO214 := n2_
      have HO217 := n3_
      have HO220 := n4_
      have HO226 := n5_
      have HO229 := n6_
      have HO234 := n7_
      have HO237 := n8_
      have HO240 := n9_
      have HO247 := n10_
      have HO250 := n11_
      have HO255 := n12_
      have HO258 := n13_
      have HO261 := n14_
      have HO268 := n15_
      have HO271 := n16_
      have HO276 := n17_
      have HO279 := n18_
      have HO282 := n19_
      have HO290 := n20_
      have HO293 := n21_
      have HO298 := n22_
      have HO301 := n23_
      have HO304 := n24_
      have HO311 := n25_
      have HO314 := n26_
      have HO319 := n27_
      have HO322 := n28_
      have HO325 := n29_
      have BK197 := n30_
      have BK198 := n31_
      have BK262 := n32_
      have BK283 := n33_
      have HB := n34_
      clear n0_ n1_ n2_ n3_ n4_ n5_ n6_ n7_ n8_ n9_ n10_ n11_ n12_ n13_ n14_ n15_ n16_ n17_ n18_ n19_ n20_ n21_ n22_ n23_ n24_ n25_ n26_ n27_ n28_ n29_ n30_ n31_ n32_ n33_ n34_
      (try clear hb)
      (try clear hb2)
      (try clear hk)
      (try clear hi)
      refine hK.out _ _ ⟨(blk_cell BK283.out 0).trans rfl, (blk_cell BK283.out 1).trans rfl, (blk_cell BK283.out 2).trans rfl, (blk_cell BK283.out 3).trans rfl, (blk_cell BK283.out 4).trans rfl, (blk_cell BK283.out 5).trans rfl, (blk_cell BK283.out 6).trans rfl, (blk_cell BK283.out 7).trans rfl, (blk_cell BK283.out 8).trans rfl, (blk_cell BK283.out 9).trans rfl, (blk_cell BK198.out 0).trans rfl, (blk_cell BK198.out 1).trans rfl, (blk_cell BK198.out 2).trans rfl, (blk_cell BK198.out 3).trans rfl, (blk_cell BK198.out 4).trans rfl, (blk_cell BK198.out 5).trans rfl, (blk_cell BK198.out 6).trans rfl, (blk_cell BK198.out 7).trans rfl, (blk_cell BK198.out 8).trans rfl, (blk_cell BK198.out 9).trans rfl⟩ (fun hHeld => ?_)
      clear hK K
      refine norm_ (a' := ?_) ?_ ?_
      rotate_left
      ·show Act.put _ (some 43) _ = _
       simp only [Act.put, List.setIfInBounds_toArray, List.set_cons_zero, List.set_cons_succ, i64_w, i32_w]
       rfl
      refine pure_ (i := 4) (N := some 44) (v := ?_) (a' := ?_) #[true, true, true, true, true] rfl rfl (by kernel_rfl) (fun _ _ _ h => h) (Or.inl ⟨by rfl, ?_⟩) ?_ ?_
      rotate_left
      ·intro w'
       go_simp
       with_reducible rfl
      rotate_left
      ·simp only [Act.put, List.setIfInBounds_toArray, List.set_cons_zero, List.set_cons_succ, i64_w, i32_w]
       rfl
      refine done_ (by kernel_rfl) ?_
      try go_wp2
      go_ret
      exact ⟨by first | rfl | (simp [errW_none, errW_some] <;> rfl) | (simp [*, errW_none, errW_some] <;> rfl), by repeat (first | (with_reducible first | exact HB.out | apply below_alloc | apply pw_below_drewN | apply below_drew1 | refine below_set ?_ GE197.out | refine below_set ?_ GE198.out | refine below_set ?_ GE262.out | refine below_set ?_ GE283.out) | exact HB.out)⟩
     ·replace c29 := Bool.eq_false_iff.mpr c29
      subst c29
      have H1 : (none) = some r := by rw [if_neg (show ¬ (false = true) by decide)] at H; exact H
      clear H
      have H := H1
      clear H1
      exact absurd H (by simp)
    ·replace c26 := Bool.eq_false_iff.mpr c26
     subst c26
     have H1 : (none) = some r := by rw [if_neg (show ¬ (false = true) by decide)] at H; exact H
     clear H
     have H := H1
     clear H1
     exact absurd H (by simp)

end Go.Proofs.Ytniapflmmigbjaa.PFnExactHeadSame
