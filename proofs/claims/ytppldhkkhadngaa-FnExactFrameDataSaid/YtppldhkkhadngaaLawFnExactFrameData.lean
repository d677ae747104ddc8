/- The law FnExactFrameData holds: for every input its call returns true, and each argument reads behind the call as it read before. No condition beside the given row's own. -/
import Derived.Test.YtppldhkkhadngaaRows
import Derived.Test.YtppldhkkhadngaaPFnExactFrameDatax5
import Derived.Test.YtppldhkkhadngaaPureFnExactFrameData
import Derived.Test.YtppldhkkhadngaaOwn
import Derived.WalkKit
import Derived.ProofKit
import Derived.OpenShut
import Derived.ShutString
import Derived.ChangeOld
import Derived.Below
import Derived.SizedLaws
namespace Go.Proofs.Ytppldhkkhadngaa.fnExactFrameData
open Go.ChangeShapes Go.WideShapes Go.ChangeAt Go.RowKit
open Go.ChangeMaps (open_string shut_string)
open Go.Proofs.YtppldhkkhadngaaW.PrintWords Go.Proofs.YtppldhkkhadngaaW.PrintLast Go.Proofs.Ytppldhkkhadngaa.Own Go.Proofs.Ytppldhkkhadngaa.PFnExactFrameData
set_option linter.unusedVariables false
set_option linter.unusedSimpArgs false
theorem own : ownKnob Try.prog.godebug = none := by kernel_rfl
theorem laidOut : laidOutB Try.prog = true := by kernel_rfl
theorem openT83 {H : Type} (enc : TypeId × Value → H) (w : World) (base : Nat) (spare : Nat → Bool) (held : Bool) (fuel : Nat) (cs : List Value) (x : DataW H × List MemPlace) (h : DataW.trod enc Try.prog w base spare held fuel 83 cs = some x) :
    ∃ (a0 : Int) (a1 : Int) (a2 : Int) (a3 : Int) (a4 : Int), cs = [.int .i64 a0, .int .i64 a1, .int .i64 a2, .int .i64 a3, .int .i64 a4] ∧ I64 a0 ∧ I64 a1 ∧ I64 a2 ∧ I64 a3 ∧ I64 a4 := by
  obtain ⟨xs, n, _, _, hlen, hsz, hf⟩ := DataW.trod_struct Try.underlying83 h
  have hl : cs.length = 5 := hlen.trans (by kernel_rfl)
  have hx : xs.length = 5 := hsz
  clear hlen hsz
  obtain ⟨z0, e0⟩ : ∃ z, xs[0]? = some z := ⟨_, List.getElem?_eq_getElem (by omega)⟩
  have h0 : DataW.trod enc Try.prog w base spare held n 3 ((cs.drop 0).take 1) = some z0 := by
    have h_ : DataW.trod enc Try.prog w base spare held n 3 ((cs.drop 0).take (Try.prog.cellsOf 3)) = xs[0]? := hf 0 _ rfl
    have hc_ : Try.prog.cellsOf 3 = 1 := by kernel_rfl
    rw [hc_, e0] at h_
    exact h_
  obtain ⟨a0, p0, w0⟩ := opens_int Try.underlying3 enc w base spare held n _ _ h0
  obtain ⟨z1, e1⟩ : ∃ z, xs[1]? = some z := ⟨_, List.getElem?_eq_getElem (by omega)⟩
  have h1 : DataW.trod enc Try.prog w base spare held n 3 ((cs.drop 1).take 1) = some z1 := by
    have h_ : DataW.trod enc Try.prog w base spare held n 3 ((cs.drop 1).take (Try.prog.cellsOf 3)) = xs[1]? := hf 1 _ rfl
    have hc_ : Try.prog.cellsOf 3 = 1 := by kernel_rfl
    rw [hc_, e1] at h_
    exact h_
  obtain ⟨a1, p1, w1⟩ := opens_int Try.underlying3 enc w base spare held n _ _ h1
  obtain ⟨z2, e2⟩ : ∃ z, xs[2]? = some z := ⟨_, List.getElem?_eq_getElem (by omega)⟩
  have h2 : DataW.trod enc Try.prog w base spare held n 3 ((cs.drop 2).take 1) = some z2 := by
    have h_ : DataW.trod enc Try.prog w base spare held n 3 ((cs.drop 2).take (Try.prog.cellsOf 3)) = xs[2]? := hf 2 _ rfl
    have hc_ : Try.prog.cellsOf 3 = 1 := by kernel_rfl
    rw [hc_, e2] at h_
    exact h_
  obtain ⟨a2, p2, w2⟩ := opens_int Try.underlying3 enc w base spare held n _ _ h2
  obtain ⟨z3, e3⟩ : ∃ z, xs[3]? = some z := ⟨_, List.getElem?_eq_getElem (by omega)⟩
  have h3 : DataW.trod enc Try.prog w base spare held n 3 ((cs.drop 3).take 1) = some z3 := by
    have h_ : DataW.trod enc Try.prog w base spare held n 3 ((cs.drop 3).take (Try.prog.cellsOf 3)) = xs[3]? := hf 3 _ rfl
    have hc_ : Try.prog.cellsOf 3 = 1 := by kernel_rfl
    rw [hc_, e3] at h_
    exact h_
  obtain ⟨a3, p3, w3⟩ := opens_int Try.underlying3 enc w base spare held n _ _ h3
  obtain ⟨z4, e4⟩ : ∃ z, xs[4]? = some z := ⟨_, List.getElem?_eq_getElem (by omega)⟩
  have h4 : DataW.trod enc Try.prog w base spare held n 3 ((cs.drop 4).take 1) = some z4 := by
    have h_ : DataW.trod enc Try.prog w base spare held n 3 ((cs.drop 4).take (Try.prog.cellsOf 3)) = xs[4]? := hf 4 _ rfl
    have hc_ : Try.prog.cellsOf 3 = 1 := by kernel_rfl
    rw [hc_, e4] at h_
    exact h_
  obtain ⟨a4, p4, w4⟩ := opens_int Try.underlying3 enc w base spare held n _ _ h4
  have hcs := (fields_cons cs 0 1 _ _ p0 (fields_cons cs 1 1 _ _ p1 (fields_cons cs 2 1 _ _ p2 (fields_cons cs 3 1 _ _ p3 (fields_cons cs 4 1 _ _ p4 (fields_nil cs 5 (by omega)))))))
  rw [List.drop_zero] at hcs
  exact ⟨a0, a1, a2, a3, a4, hcs, w0, w1, w2, w3, w4⟩
set_option maxRecDepth 100000 in
theorem lifted (os : Os) (started : os.Started) (H : Type) (enc : TypeId × Value → H) :
    ReturnsInHanded {} Try.checked os 7 .any (Rows.fnExactFrameDataSpec.pre6 enc Try.prog Try.f7 Rows.fnExactFrameDataRow.domain false) (Rows.fnExactFrameDataSpec.post enc Try.prog Try.f7 false true false false) := by
  refine returnsInHanded_of_change_sized (C := Try.checked) own started (by kernel_rfl) Try.func7
    (ChangeSpec.witness6 (enc := enc) (C := Try.checked) false ⟨#[], #[.agg #[.int .i64 0, .int .i64 0, .int .i64 0, .int .i64 0, .int .i64 0], .slice none 0 0, .int .i64 0], []⟩ 8 (by kernel_rfl) (by kernel_rfl) (by kernel_rfl) (by kernel_rfl)) ?_
  intro W base args ds gs before hval0 hW hcnd hsz0 _
  have hval : ∀ (j : Nat) t v, Try.f7.params[j]? = some t → args[j]? = some v → Value.okWide Try.prog W .any base t v := hval0
  have hW' := hW
  obtain ⟨p, q, hA0, hV, rfl, hfz, hnd⟩ := hW
  have hA : DataW.TrodAll enc Try.prog W 0 (fun _ => true) true Try.f7.params.toList args.toList ds p := hA0
  rw [Try.params7] at hA hval
  obtain ⟨v0, vs0, d0, ds0, p0, q0, hargs, rfl, rfl, h0, r0⟩ := trodAll_cons hA
  obtain ⟨v1, vs1, d1, ds1, p1, q1, rfl, rfl, rfl, h1, r1⟩ := trodAll_cons r0
  obtain ⟨v2, vs2, d2, ds2, p2, q2, rfl, rfl, rfl, h2, r2⟩ := trodAll_cons r1
  obtain ⟨rfl, rfl, rfl⟩ := trodAll_nil r2
  obtain rfl : args = #[v0, v1, v2] := by cases args; simp_all
  obtain ⟨rfl, rfl⟩ := trodVars_none hV
  have lt0 : ∀ x ∈ p0, x.block < W.heap.size := by obtain ⟨m, hm⟩ := h0; exact DataW.trod_lt m _ _ _ hm
  obtain ⟨cs0, rfl, _⟩ := okWide_struct Try.underlying83 (hval 0 83 v0 rfl rfl)
  have k0 := h0
  obtain ⟨fuel0, hf0⟩ := h0
  obtain ⟨a0_0, a0_1, a0_2, a0_3, a0_4, e0_, w0_0, w0_1, w0_2, w0_3, w0_4⟩ := openT83 enc W _ _ _ fuel0 _ _ hf0
  obtain rfl : cs0 = #[.int .i64 a0_0, .int .i64 a0_1, .int .i64 a0_2, .int .i64 a0_3, .int .i64 a0_4] := by apply Array.toList_inj.1; simpa [Value.cells] using e0_
  have lt1 : ∀ x ∈ p1, x.block < W.heap.size := by obtain ⟨m, hm⟩ := h1; exact DataW.trod_lt m _ _ _ hm
  obtain ⟨e1, n1, c1, rfl⟩ := okWide_slice Try.underlying22 (hval 1 22 v1 rfl rfl)
  have k1 := h1
  obtain ⟨fuel1, hf1⟩ := h1
  obtain ⟨l1, ⟨A1, c1_, p1_, m1, g1⟩, b1⟩ := (opens_slice (e' := 5) Try.underlying22 (show Try.prog.cellsOf 5 = (Kd.int .u8).sz from by kernel_rfl) (opens_u8 Try.underlying5)) enc W _ _ _ fuel1 _ _ hf1
  obtain ⟨rfl, rfl, rfl⟩ : e1 = A1 ∧ n1 = l1.length ∧ c1 = c1_ := by simpa [Value.cells] using p1_
  obtain ⟨a2, rfl, rfl, rfl, w2⟩ := open_int Try.underlying3 (hval 2 3 v2 rfl rfl) h2
  have b2 : I64 a2 := bounds_i64 w2
  clear hA0 hval0 hsz0
  obtain ⟨k, hp⟩ := Pure_FnExactFrameData a0_0 a0_1 a0_2 a0_3 a0_4 l1 a2 w0_0 w0_1 w0_2 w0_3 w0_4 b1 b2
  refine (laws_FnExactFrameData.calls k a0_0 a0_1 a0_2 a0_3 a0_4 _ _ l1 a2 true W g1 m1 hp).mono fun e W' ⟨he, bel⟩ => ?_
  subst he
  exact ⟨_, rfl, _, _, _, [], _, [], hW', trodAll_mk1 (shut_bool Try.underlying4 _), (trodAll_cons_mk (Below.trod laidOut (by kernel_rfl) (of_decide_eq_true (by kernel_rfl)) k0 bel lt0) (trodAll_cons_mk (Below.trod laidOut (by kernel_rfl) (of_decide_eq_true (by kernel_rfl)) k1 bel lt1) (trodAll_cons_mk (shut_int Try.underlying3 w2) trodAll_mk0))), rfl, bel.frame _, fun h => by cases h⟩
theorem over : Rows.fnExactFrameDataRow.holds Try.pinned (OpenSpec.ofChange Rows.fnExactFrameDataSpec) :=
  OpenClaim.holds_of_wide 7 Try.f7 rfl rfl rfl rfl rfl rfl rfl ⟨rfl, rfl, rfl, rfl, rfl⟩ rfl rfl rfl rfl rfl (by kernel_rfl) Try.func7 (by kernel_rfl)
    (of_decide_eq_true (by kernel_rfl)) (by unfold Func.isWrapper; first | (rw [if_pos (by decide +kernel)]; kernel_rfl) | (rw [if_neg (by decide +kernel)]; exact ⟨rfl, rfl⟩))
    (fun os started H enc _ => lifted os started H enc)
theorem proved : Rows.FnExactFrameDataSaid := over
#print axioms proved
end Go.Proofs.Ytppldhkkhadngaa.fnExactFrameData
namespace Go.Proofs.Ytppldhkkhadngaa
/-- The row, under a short name, for the claim. -/
theorem fnExactFrameData_holds : Rows.FnExactFrameDataSaid := fnExactFrameData.proved
end Go.Proofs.Ytppldhkkhadngaa
