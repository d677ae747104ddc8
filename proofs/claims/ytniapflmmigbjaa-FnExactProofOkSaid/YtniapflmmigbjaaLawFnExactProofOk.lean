/- The law FnExactProofOk holds: for every input its call returns true, and each argument reads behind the call as it read before. No condition beside the given row's own. -/
import Derived.Test.YtniapflmmigbjaaRows
import Derived.Test.YtniapflmmigbjaaPFnExactProofOkx10
import Derived.Test.YtniapflmmigbjaaPureFnExactProofOk
import Derived.Test.YtniapflmmigbjaaTFnExactProofOkOwn
import Derived.WalkKit
import Derived.ProofKit
import Derived.OpenShut
import Derived.ShutString
import Derived.ChangeOld
import Derived.Below
import Derived.SizedLaws
namespace Go.Proofs.Ytniapflmmigbjaa.fnExactProofOk
open Go.ChangeShapes Go.WideShapes Go.ChangeAt Go.RowKit
open Go.ChangeMaps (open_string shut_string)
open Go.Proofs.YtniapflmmigbjaaW.PrintWords Go.Proofs.YtniapflmmigbjaaW.PrintLast Go.Proofs.Ytniapflmmigbjaa.Own Go.Proofs.Ytniapflmmigbjaa.PFnExactProofOk
set_option linter.unusedVariables false
set_option linter.unusedSimpArgs false
theorem own : ownKnob Try.prog.godebug = none := by kernel_rfl
theorem laidOut : laidOutB Try.prog = true := by kernel_rfl
theorem openT23 {H : Type} (enc : TypeId × Value → H) (w : World) (base : Nat) (spare : Nat → Bool) (held : Bool) (fuel : Nat) (cs : List Value) (x : DataW H × List MemPlace) (h : DataW.trod enc Try.prog w base spare held fuel 23 cs = some x) :
    ∃ (a0 : Int) (a1 : Int) (a2 : Int) (a3 : Int) (a4 : Int), cs = [.int .i64 a0, .int .i64 a1, .int .i64 a2, .int .i64 a3, .int .i64 a4] ∧ I64 a0 ∧ I64 a1 ∧ I64 a2 ∧ I64 a3 ∧ I64 a4 := by
  obtain ⟨xs, n, _, _, hlen, hsz, hf⟩ := DataW.trod_struct Try.underlying23 h
  have hl : cs.length = 5 := hlen.trans (by kernel_rfl)
  have hx : xs.length = 5 := hsz
  clear hlen hsz
  obtain ⟨z0, e0⟩ : ∃ z, xs[0]? = some z := ⟨_, List.getElem?_eq_getElem (by omega)⟩
  have h0 : DataW.trod enc Try.prog w base spare held n 3 ((cs.drop 0).take 1) = some z0 := by
    have h_ : DataW.trod enc Try.prog w base spare held n 3 ((cs.drop 0).take (Try.prog.cellsOf 3)) = xs[0]? := hf 0 _ rfl
    have hc_ : Try.prog.cellsOf 3 = 1 := by kernel_rfl
    rw [hc_, e0] at h_
    exact h_
  obtain ⟨a0, p0, w0⟩ := opens_int Try.underlying3 enc w base spare held n _ _ h0
  obtain ⟨z1, e1⟩ : ∃ z, xs[1]? = some z := ⟨_, List.getElem?_eq_getElem (by omega)⟩
  have h1 : DataW.trod enc Try.prog w base spare held n 3 ((cs.drop 1).take 1) = some z1 := by
    have h_ : DataW.trod enc Try.prog w base spare held n 3 ((cs.drop 1).take (Try.prog.cellsOf 3)) = xs[1]? := hf 1 _ rfl
    have hc_ : Try.prog.cellsOf 3 = 1 := by kernel_rfl
    rw [hc_, e1] at h_
    exact h_
  obtain ⟨a1, p1, w1⟩ := opens_int Try.underlying3 enc w base spare held n _ _ h1
  obtain ⟨z2, e2⟩ : ∃ z, xs[2]? = some z := ⟨_, List.getElem?_eq_getElem (by omega)⟩
  have h2 : DataW.trod enc Try.prog w base spare held n 3 ((cs.drop 2).take 1) = some z2 := by
    have h_ : DataW.trod enc Try.prog w base spare held n 3 ((cs.drop 2).take (Try.prog.cellsOf 3)) = xs[2]? := hf 2 _ rfl
    have hc_ : Try.prog.cellsOf 3 = 1 := by kernel_rfl
    rw [hc_, e2] at h_
    exact h_
  obtain ⟨a2, p2, w2⟩ := opens_int Try.underlying3 enc w base spare held n _ _ h2
  obtain ⟨z3, e3⟩ : ∃ z, xs[3]? = some z := ⟨_, List.getElem?_eq_getElem (by omega)⟩
  have h3 : DataW.trod enc Try.prog w base spare held n 3 ((cs.drop 3).take 1) = some z3 := by
    have h_ : DataW.trod enc Try.prog w base spare held n 3 ((cs.drop 3).take (Try.prog.cellsOf 3)) = xs[3]? := hf 3 _ rfl
    have hc_ : Try.prog.cellsOf 3 = 1 := by kernel_rfl
    rw [hc_, e3] at h_
    exact h_
  obtain ⟨a3, p3, w3⟩ := opens_int Try.underlying3 enc w base spare held n _ _ h3
  obtain ⟨z4, e4⟩ : ∃ z, xs[4]? = some z := ⟨_, List.getElem?_eq_getElem (by omega)⟩
  have h4 : DataW.trod enc Try.prog w base spare held n 3 ((cs.drop 4).take 1) = some z4 := by
    have h_ : DataW.trod enc Try.prog w base spare held n 3 ((cs.drop 4).take (Try.prog.cellsOf 3)) = xs[4]? := hf 4 _ rfl
    have hc_ : Try.prog.cellsOf 3 = 1 := by kernel_rfl
    rw [hc_, e4] at h_
    exact h_
  obtain ⟨a4, p4, w4⟩ := opens_int Try.underlying3 enc w base spare held n _ _ h4
  have hcs := (fields_cons cs 0 1 _ _ p0 (fields_cons cs 1 1 _ _ p1 (fields_cons cs 2 1 _ _ p2 (fields_cons cs 3 1 _ _ p3 (fields_cons cs 4 1 _ _ p4 (fields_nil cs 5 (by omega)))))))
  rw [List.drop_zero] at hcs
  exact ⟨a0, a1, a2, a3, a4, hcs, w0, w1, w2, w3, w4⟩
theorem openT48 {H : Type} (enc : TypeId × Value → H) (w : World) (base : Nat) (spare : Nat → Bool) (held : Bool) (fuel : Nat) (cs : List Value) (x : DataW H × List MemPlace) (h : DataW.trod enc Try.prog w base spare held fuel 48 cs = some x) :
    ∃ (a0 : Int) (a1 : Int) (A2 : Option Addr) (c2 : Nat) (l2 : (List Int)) (A3 : Option Addr) (c3 : Nat) (l3 : (List Int)) (A4 : Option Addr) (c4 : Nat) (l4 : (List (List Int))), cs = [.int .i64 a0, .int .i64 a1, .slice A2 l2.length c2, .slice A3 l3.length c3, .slice A4 l4.length c4] ∧ I64 a0 ∧ I64 a1 ∧ (l2.length ≤ c2 ∧ Kd.C (Kd.int .u8) w A2 l2.length l2 ∧ (WL U8) l2) ∧ (l3.length ≤ c3 ∧ Kd.C (Kd.int .u8) w A3 l3.length l3 ∧ (WL U8) l3) ∧ (l4.length ≤ c4 ∧ Kd.C (Kd.slice 5 (Kd.int .u8)) w A4 l4.length l4 ∧ (WL (WL U8)) l4) := by
  obtain ⟨xs, n, _, _, hlen, hsz, hf⟩ := DataW.trod_struct Try.underlying48 h
  have hl : cs.length = 5 := hlen.trans (by kernel_rfl)
  have hx : xs.length = 5 := hsz
  clear hlen hsz
  obtain ⟨z0, e0⟩ : ∃ z, xs[0]? = some z := ⟨_, List.getElem?_eq_getElem (by omega)⟩
  have h0 : DataW.trod enc Try.prog w base spare held n 3 ((cs.drop 0).take 1) = some z0 := by
    have h_ : DataW.trod enc Try.prog w base spare held n 3 ((cs.drop 0).take (Try.prog.cellsOf 3)) = xs[0]? := hf 0 _ rfl
    have hc_ : Try.prog.cellsOf 3 = 1 := by kernel_rfl
    rw [hc_, e0] at h_
    exact h_
  obtain ⟨a0, p0, w0⟩ := opens_int Try.underlying3 enc w base spare held n _ _ h0
  obtain ⟨z1, e1⟩ : ∃ z, xs[1]? = some z := ⟨_, List.getElem?_eq_getElem (by omega)⟩
  have h1 : DataW.trod enc Try.prog w base spare held n 3 ((cs.drop 1).take 1) = some z1 := by
    have h_ : DataW.trod enc Try.prog w base spare held n 3 ((cs.drop 1).take (Try.prog.cellsOf 3)) = xs[1]? := hf 1 _ rfl
    have hc_ : Try.prog.cellsOf 3 = 1 := by kernel_rfl
    rw [hc_, e1] at h_
    exact h_
  obtain ⟨a1, p1, w1⟩ := opens_int Try.underlying3 enc w base spare held n _ _ h1
  obtain ⟨z2, e2⟩ : ∃ z, xs[2]? = some z := ⟨_, List.getElem?_eq_getElem (by omega)⟩
  have h2 : DataW.trod enc Try.prog w base spare held n 37 ((cs.drop 2).take 1) = some z2 := by
    have h_ : DataW.trod enc Try.prog w base spare held n 37 ((cs.drop 2).take (Try.prog.cellsOf 37)) = xs[2]? := hf 2 _ rfl
    have hc_ : Try.prog.cellsOf 37 = 1 := by kernel_rfl
    rw [hc_, e2] at h_
    exact h_
  obtain ⟨l2, ⟨A2, c2, p2, m2, g2⟩, b2⟩ := (opens_slice (e' := 5) Try.underlying37 (show Try.prog.cellsOf 5 = (Kd.int .u8).sz from by kernel_rfl) (opens_u8 Try.underlying5)) enc w base spare held n _ _ h2
  obtain ⟨z3, e3⟩ : ∃ z, xs[3]? = some z := ⟨_, List.getElem?_eq_getElem (by omega)⟩
  have h3 : DataW.trod enc Try.prog w base spare held n 37 ((cs.drop 3).take 1) = some z3 := by
    have h_ : DataW.trod enc Try.prog w base spare held n 37 ((cs.drop 3).take (Try.prog.cellsOf 37)) = xs[3]? := hf 3 _ rfl
    have hc_ : Try.prog.cellsOf 37 = 1 := by kernel_rfl
    rw [hc_, e3] at h_
    exact h_
  obtain ⟨l3, ⟨A3, c3, p3, m3, g3⟩, b3⟩ := (opens_slice (e' := 5) Try.underlying37 (show Try.prog.cellsOf 5 = (Kd.int .u8).sz from by kernel_rfl) (opens_u8 Try.underlying5)) enc w base spare held n _ _ h3
  obtain ⟨z4, e4⟩ : ∃ z, xs[4]? = some z := ⟨_, List.getElem?_eq_getElem (by omega)⟩
  have h4 : DataW.trod enc Try.prog w base spare held n 38 ((cs.drop 4).take 1) = some z4 := by
    have h_ : DataW.trod enc Try.prog w base spare held n 38 ((cs.drop 4).take (Try.prog.cellsOf 38)) = xs[4]? := hf 4 _ rfl
    have hc_ : Try.prog.cellsOf 38 = 1 := by kernel_rfl
    rw [hc_, e4] at h_
    exact h_
  obtain ⟨l4, ⟨A4, c4, p4, m4, g4⟩, b4⟩ := (opens_slice (e' := 37) Try.underlying38 (show Try.prog.cellsOf 37 = (Kd.slice 5 (Kd.int .u8)).sz from by kernel_rfl) (opens_slice (e' := 5) Try.underlying37 (show Try.prog.cellsOf 5 = (Kd.int .u8).sz from by kernel_rfl) (opens_u8 Try.underlying5))) enc w base spare held n _ _ h4
  have hcs := (fields_cons cs 0 1 _ _ p0 (fields_cons cs 1 1 _ _ p1 (fields_cons cs 2 1 _ _ p2 (fields_cons cs 3 1 _ _ p3 (fields_cons cs 4 1 _ _ p4 (fields_nil cs 5 (by omega)))))))
  rw [List.drop_zero] at hcs
  exact ⟨a0, a1, A2, c2, l2, A3, c3, l3, A4, c4, l4, hcs, w0, w1, ⟨m2, g2, b2⟩, ⟨m3, g3, b3⟩, ⟨m4, g4, b4⟩⟩
theorem openT50 {H : Type} (enc : TypeId × Value → H) (w : World) (base : Nat) (spare : Nat → Bool) (held : Bool) (fuel : Nat) (cs : List Value) (x : DataW H × List MemPlace) (h : DataW.trod enc Try.prog w base spare held fuel 50 cs = some x) :
    ∃ (a0 : Int) (a1 : Int) (a2 : Int) (A3 : Option Addr) (c3 : Nat) (l3 : (List Int)) (A4 : Option Addr) (c4 : Nat) (l4 : (List Int)) (a5 : Int) (a6 : Int) (A7 : Option Addr) (c7 : Nat) (l7 : (List Int)) (A8 : Option Addr) (c8 : Nat) (l8 : (List Int)) (A9 : Option Addr) (c9 : Nat) (l9 : (List (List Int))), cs = [.int .i64 a0, .int .i64 a1, .int .i64 a2, .slice A3 l3.length c3, .slice A4 l4.length c4, .int .i64 a5, .int .i64 a6, .slice A7 l7.length c7, .slice A8 l8.length c8, .slice A9 l9.length c9] ∧ I64 a0 ∧ I64 a1 ∧ I64 a2 ∧ (l3.length ≤ c3 ∧ Kd.C (Kd.int .u8) w A3 l3.length l3 ∧ (WL U8) l3) ∧ (l4.length ≤ c4 ∧ Kd.C (Kd.int .u8) w A4 l4.length l4 ∧ (WL U8) l4) ∧ I64 a5 ∧ I64 a6 ∧ (l7.length ≤ c7 ∧ Kd.C (Kd.int .u8) w A7 l7.length l7 ∧ (WL U8) l7) ∧ (l8.length ≤ c8 ∧ Kd.C (Kd.int .u8) w A8 l8.length l8 ∧ (WL U8) l8) ∧ (l9.length ≤ c9 ∧ Kd.C (Kd.slice 5 (Kd.int .u8)) w A9 l9.length l9 ∧ (WL (WL U8)) l9) := by
  obtain ⟨xs, n, _, _, hlen, hsz, hf⟩ := DataW.trod_struct Try.underlying50 h
  have hl : cs.length = 10 := hlen.trans (by kernel_rfl)
  have hx : xs.length = 6 := hsz
  clear hlen hsz
  obtain ⟨z0, e0⟩ : ∃ z, xs[0]? = some z := ⟨_, List.getElem?_eq_getElem (by omega)⟩
  have h0 : DataW.trod enc Try.prog w base spare held n 3 ((cs.drop 0).take 1) = some z0 := by
    have h_ : DataW.trod enc Try.prog w base spare held n 3 ((cs.drop 0).take (Try.prog.cellsOf 3)) = xs[0]? := hf 0 _ rfl
    have hc_ : Try.prog.cellsOf 3 = 1 := by kernel_rfl
    rw [hc_, e0] at h_
    exact h_
  obtain ⟨a0, p0, w0⟩ := opens_int Try.underlying3 enc w base spare held n _ _ h0
  obtain ⟨z1, e1⟩ : ∃ z, xs[1]? = some z := ⟨_, List.getElem?_eq_getElem (by omega)⟩
  have h1 : DataW.trod enc Try.prog w base spare held n 3 ((cs.drop 1).take 1) = some z1 := by
    have h_ : DataW.trod enc Try.prog w base spare held n 3 ((cs.drop 1).take (Try.prog.cellsOf 3)) = xs[1]? := hf 1 _ rfl
    have hc_ : Try.prog.cellsOf 3 = 1 := by kernel_rfl
    rw [hc_, e1] at h_
    exact h_
  obtain ⟨a1, p1, w1⟩ := opens_int Try.underlying3 enc w base spare held n _ _ h1
  obtain ⟨z2, e2⟩ : ∃ z, xs[2]? = some z := ⟨_, List.getElem?_eq_getElem (by omega)⟩
  have h2 : DataW.trod enc Try.prog w base spare held n 3 ((cs.drop 2).take 1) = some z2 := by
    have h_ : DataW.trod enc Try.prog w base spare held n 3 ((cs.drop 2).take (Try.prog.cellsOf 3)) = xs[2]? := hf 2 _ rfl
    have hc_ : Try.prog.cellsOf 3 = 1 := by kernel_rfl
    rw [hc_, e2] at h_
    exact h_
  obtain ⟨a2, p2, w2⟩ := opens_int Try.underlying3 enc w base spare held n _ _ h2
  obtain ⟨z3, e3⟩ : ∃ z, xs[3]? = some z := ⟨_, List.getElem?_eq_getElem (by omega)⟩
  have h3 : DataW.trod enc Try.prog w base spare held n 37 ((cs.drop 3).take 1) = some z3 := by
    have h_ : DataW.trod enc Try.prog w base spare held n 37 ((cs.drop 3).take (Try.prog.cellsOf 37)) = xs[3]? := hf 3 _ rfl
    have hc_ : Try.prog.cellsOf 37 = 1 := by kernel_rfl
    rw [hc_, e3] at h_
    exact h_
  obtain ⟨l3, ⟨A3, c3, p3, m3, g3⟩, b3⟩ := (opens_slice (e' := 5) Try.underlying37 (show Try.prog.cellsOf 5 = (Kd.int .u8).sz from by kernel_rfl) (opens_u8 Try.underlying5)) enc w base spare held n _ _ h3
  obtain ⟨z4, e4⟩ : ∃ z, xs[4]? = some z := ⟨_, List.getElem?_eq_getElem (by omega)⟩
  have h4 : DataW.trod enc Try.prog w base spare held n 37 ((cs.drop 4).take 1) = some z4 := by
    have h_ : DataW.trod enc Try.prog w base spare held n 37 ((cs.drop 4).take (Try.prog.cellsOf 37)) = xs[4]? := hf 4 _ rfl
    have hc_ : Try.prog.cellsOf 37 = 1 := by kernel_rfl
    rw [hc_, e4] at h_
    exact h_
  obtain ⟨l4, ⟨A4, c4, p4, m4, g4⟩, b4⟩ := (opens_slice (e' := 5) Try.underlying37 (show Try.prog.cellsOf 5 = (Kd.int .u8).sz from by kernel_rfl) (opens_u8 Try.underlying5)) enc w base spare held n _ _ h4
  obtain ⟨z5, e5⟩ : ∃ z, xs[5]? = some z := ⟨_, List.getElem?_eq_getElem (by omega)⟩
  have h5 : DataW.trod enc Try.prog w base spare held n 48 ((cs.drop 5).take 5) = some z5 := by
    have h_ : DataW.trod enc Try.prog w base spare held n 48 ((cs.drop 5).take (Try.prog.cellsOf 48)) = xs[5]? := hf 5 _ rfl
    have hc_ : Try.prog.cellsOf 48 = 5 := by kernel_rfl
    rw [hc_, e5] at h_
    exact h_
  obtain ⟨a5, a6, A7, c7, l7, A8, c8, l8, A9, c9, l9, p5, w5, w6, w7, w8, w9⟩ := openT48 enc w base spare held n _ _ h5
  have hcs := (fields_cons cs 0 1 _ _ p0 (fields_cons cs 1 1 _ _ p1 (fields_cons cs 2 1 _ _ p2 (fields_cons cs 3 1 _ _ p3 (fields_cons cs 4 1 _ _ p4 (fields_cons cs 5 5 _ _ p5 (fields_nil cs 10 (by omega))))))))
  rw [List.drop_zero] at hcs
  exact ⟨a0, a1, a2, A3, c3, l3, A4, c4, l4, a5, a6, A7, c7, l7, A8, c8, l8, A9, c9, l9, hcs, w0, w1, w2, ⟨m3, g3, b3⟩, ⟨m4, g4, b4⟩, w5, w6, w7, w8, w9⟩
theorem opensT50 : Opens Try.prog 50 k50 W50 := by
  intro H enc w base spare held fuel cs x h
  obtain ⟨a0, a1, a2, A3, c3, l3, A4, c4, l4, a5, a6, A7, c7, l7, A8, c8, l8, A9, c9, l9, rfl, w0, w1, w2, ⟨m3, g3, w3⟩, ⟨m4, g4, w4⟩, w5, w6, ⟨m7, g7, w7⟩, ⟨m8, g8, w8⟩, ⟨m9, g9, w9⟩⟩ := openT50 enc w base spare held fuel cs x h
  exact ⟨(⟨a0, a1, a2, l3, l4, (⟨a5, a6, l7, l8, l9⟩ : S48)⟩ : S50), k50_mk w (⟨a0, a1, a2, l3, l4, (⟨a5, a6, l7, l8, l9⟩ : S48)⟩ : S50) m3 g3 m4 g4 m7 g7 m8 g8 m9 g9, w0, w1, w2, w3, w4, w5, w6, w7, w8, w9⟩
theorem openT79 {H : Type} (enc : TypeId × Value → H) (w : World) (base : Nat) (spare : Nat → Bool) (held : Bool) (fuel : Nat) (cs : List Value) (x : DataW H × List MemPlace) (h : DataW.trod enc Try.prog w base spare held fuel 79 cs = some x) :
    ∃ (A0 : Option Addr) (c0 : Nat) (l0 : (List S50)) (a1 : Int) (a2 : Int) (A3 : Option Addr) (c3 : Nat) (l3 : (List Int)) (A4 : Option Addr) (c4 : Nat) (l4 : (List Int)) (A5 : Option Addr) (c5 : Nat) (l5 : (List (List Int))), cs = [.slice A0 l0.length c0, .int .i64 a1, .int .i64 a2, .slice A3 l3.length c3, .slice A4 l4.length c4, .slice A5 l5.length c5] ∧ (l0.length ≤ c0 ∧ Kd.C k50 w A0 l0.length l0 ∧ (WL W50) l0) ∧ I64 a1 ∧ I64 a2 ∧ (l3.length ≤ c3 ∧ Kd.C (Kd.int .u8) w A3 l3.length l3 ∧ (WL U8) l3) ∧ (l4.length ≤ c4 ∧ Kd.C (Kd.int .u8) w A4 l4.length l4 ∧ (WL U8) l4) ∧ (l5.length ≤ c5 ∧ Kd.C (Kd.slice 5 (Kd.int .u8)) w A5 l5.length l5 ∧ (WL (WL U8)) l5) := by
  obtain ⟨xs, n, _, _, hlen, hsz, hf⟩ := DataW.trod_struct Try.underlying79 h
  have hl : cs.length = 6 := hlen.trans (by kernel_rfl)
  have hx : xs.length = 2 := hsz
  clear hlen hsz
  obtain ⟨z0, e0⟩ : ∃ z, xs[0]? = some z := ⟨_, List.getElem?_eq_getElem (by omega)⟩
  have h0 : DataW.trod enc Try.prog w base spare held n 77 ((cs.drop 0).take 1) = some z0 := by
    have h_ : DataW.trod enc Try.prog w base spare held n 77 ((cs.drop 0).take (Try.prog.cellsOf 77)) = xs[0]? := hf 0 _ rfl
    have hc_ : Try.prog.cellsOf 77 = 1 := by kernel_rfl
    rw [hc_, e0] at h_
    exact h_
  obtain ⟨l0, ⟨A0, c0, p0, m0, g0⟩, b0⟩ := (opens_slice (e' := 50) Try.underlying77 (show Try.prog.cellsOf 50 = k50.sz from by kernel_rfl) opensT50) enc w base spare held n _ _ h0
  obtain ⟨z1, e1⟩ : ∃ z, xs[1]? = some z := ⟨_, List.getElem?_eq_getElem (by omega)⟩
  have h1 : DataW.trod enc Try.prog w base spare held n 48 ((cs.drop 1).take 5) = some z1 := by
    have h_ : DataW.trod enc Try.prog w base spare held n 48 ((cs.drop 1).take (Try.prog.cellsOf 48)) = xs[1]? := hf 1 _ rfl
    have hc_ : Try.prog.cellsOf 48 = 5 := by kernel_rfl
    rw [hc_, e1] at h_
    exact h_
  obtain ⟨a1, a2, A3, c3, l3, A4, c4, l4, A5, c5, l5, p1, w1, w2, w3, w4, w5⟩ := openT48 enc w base spare held n _ _ h1
  have hcs := (fields_cons cs 0 1 _ _ p0 (fields_cons cs 1 5 _ _ p1 (fields_nil cs 6 (by omega))))
  rw [List.drop_zero] at hcs
  exact ⟨A0, c0, l0, a1, a2, A3, c3, l3, A4, c4, l4, A5, c5, l5, hcs, ⟨m0, g0, b0⟩, w1, w2, w3, w4, w5⟩
set_option maxRecDepth 100000 in
theorem lifted (os : Os) (started : os.Started) (H : Type) (enc : TypeId × Value → H) :
    ReturnsInHanded {} Try.checked os 12 .any (Rows.fnExactProofOkSpec.pre6 enc Try.prog Try.f12 Rows.fnExactProofOkRow.domain false) (Rows.fnExactProofOkSpec.post enc Try.prog Try.f12 false true false false) := by
  refine returnsInHanded_of_change_sized (C := Try.checked) own started (by kernel_rfl) Try.func12
    (ChangeSpec.witness6 (enc := enc) (C := Try.checked) false ⟨#[], #[.agg #[.int .i64 0, .int .i64 0, .int .i64 0, .int .i64 0, .int .i64 0], .agg #[.slice none 0 0, .int .i64 0, .int .i64 0, .slice none 0 0, .slice none 0 0, .slice none 0 0]], []⟩ 8 (by kernel_rfl) (by kernel_rfl) (by kernel_rfl) (by kernel_rfl)) ?_
  intro W base args ds gs before hval0 hW hcnd hsz0 _
  have hval : ∀ (j : Nat) t v, Try.f12.params[j]? = some t → args[j]? = some v → Value.okWide Try.prog W .any base t v := hval0
  have hW' := hW
  obtain ⟨p, q, hA0, hV, rfl, hfz, hnd⟩ := hW
  have hA : DataW.TrodAll enc Try.prog W 0 (fun _ => true) true Try.f12.params.toList args.toList ds p := hA0
  rw [Try.params12] at hA hval
  obtain ⟨v0, vs0, d0, ds0, p0, q0, hargs, rfl, rfl, h0, r0⟩ := trodAll_cons hA
  obtain ⟨v1, vs1, d1, ds1, p1, q1, rfl, rfl, rfl, h1, r1⟩ := trodAll_cons r0
  obtain ⟨rfl, rfl, rfl⟩ := trodAll_nil r1
  obtain rfl : args = #[v0, v1] := by cases args; simp_all
  obtain ⟨rfl, rfl⟩ := trodVars_none hV
  have lt0 : ∀ x ∈ p0, x.block < W.heap.size := by obtain ⟨m, hm⟩ := h0; exact DataW.trod_lt m _ _ _ hm
  obtain ⟨cs0, rfl, _⟩ := okWide_struct Try.underlying23 (hval 0 23 v0 rfl rfl)
  have k0 := h0
  obtain ⟨fuel0, hf0⟩ := h0
  obtain ⟨a0_0, a0_1, a0_2, a0_3, a0_4, e0_, w0_0, w0_1, w0_2, w0_3, w0_4⟩ := openT23 enc W _ _ _ fuel0 _ _ hf0
  obtain rfl : cs0 = #[.int .i64 a0_0, .int .i64 a0_1, .int .i64 a0_2, .int .i64 a0_3, .int .i64 a0_4] := by apply Array.toList_inj.1; simpa [Value.cells] using e0_
  have lt1 : ∀ x ∈ p1, x.block < W.heap.size := by obtain ⟨m, hm⟩ := h1; exact DataW.trod_lt m _ _ _ hm
  obtain ⟨cs1, rfl, _⟩ := okWide_struct Try.underlying79 (hval 1 79 v1 rfl rfl)
  have k1 := h1
  obtain ⟨fuel1, hf1⟩ := h1
  obtain ⟨A1_0, c1_0, l1_0, a1_1, a1_2, A1_3, c1_3, l1_3, A1_4, c1_4, l1_4, A1_5, c1_5, l1_5, e1_, w1_0, w1_1, w1_2, w1_3, w1_4, w1_5⟩ := openT79 enc W _ _ _ fuel1 _ _ hf1
  obtain rfl : cs1 = #[.slice A1_0 l1_0.length c1_0, .int .i64 a1_1, .int .i64 a1_2, .slice A1_3 l1_3.length c1_3, .slice A1_4 l1_4.length c1_4, .slice A1_5 l1_5.length c1_5] := by apply Array.toList_inj.1; simpa [Value.cells] using e1_
  clear hA0 hval0 hsz0
  obtain ⟨k, hp⟩ := Pure_FnExactProofOk a0_0 a0_1 a0_2 a0_3 a0_4 l1_0 a1_1 a1_2 l1_3 l1_4 l1_5 w0_0 w0_1 w0_2 w0_3 w0_4 w1_0.2.2 w1_1 w1_2 w1_3.2.2 w1_4.2.2 w1_5.2.2
  refine (laws_FnExactProofOk.calls k a0_0 a0_1 a0_2 a0_3 a0_4 _ _ l1_0 a1_1 a1_2 _ _ l1_3 _ _ l1_4 _ _ l1_5 true W w1_0.2.1 w1_0.1 w1_3.2.1 w1_3.1 w1_4.2.1 w1_4.1 w1_5.2.1 w1_5.1 hp).mono fun e W' ⟨he, bel⟩ => ?_
  subst he
  exact ⟨_, rfl, _, _, _, [], _, [], hW', trodAll_mk1 (shut_bool Try.underlying4 _), (trodAll_cons_mk (Below.trod laidOut (by kernel_rfl) (of_decide_eq_true (by kernel_rfl)) k0 bel lt0) (trodAll_cons_mk (Below.trod laidOut (by kernel_rfl) (of_decide_eq_true (by kernel_rfl)) k1 bel lt1) trodAll_mk0)), rfl, bel.frame _, fun h => by cases h⟩
theorem over : Rows.fnExactProofOkRow.holds Try.pinned (OpenSpec.ofChange Rows.fnExactProofOkSpec) :=
  OpenClaim.holds_of_wide 12 Try.f12 rfl rfl rfl rfl rfl rfl rfl ⟨rfl, rfl, rfl, rfl, rfl⟩ rfl rfl rfl rfl rfl (by kernel_rfl) Try.func12 (by kernel_rfl)
    (of_decide_eq_true (by kernel_rfl)) (by unfold Func.isWrapper; first | (rw [if_pos (by decide +kernel)]; kernel_rfl) | (rw [if_neg (by decide +kernel)]; exact ⟨rfl, rfl⟩))
    (fun os started H enc _ => lifted os started H enc)
theorem proved : Rows.FnExactProofOkSaid := over
#print axioms proved
end Go.Proofs.Ytniapflmmigbjaa.fnExactProofOk
namespace Go.Proofs.Ytniapflmmigbjaa
/-- The row, under a short name, for the claim. -/
theorem fnExactProofOk_holds : Rows.FnExactProofOkSaid := fnExactProofOk.proved
end Go.Proofs.Ytniapflmmigbjaa
