/- The law FnExactConsOk holds: for every input its call returns true, and each argument reads behind the call as it read before. No condition beside the given row's own. -/
import Derived.Test.YtmdojlglemnijaaRows
import Derived.Test.YtmdojlglemnijaaRFnExactConsOkx2
namespace Go.Proofs.Ytmdojlglemnijaa.Rf
open Go.RowKit Go.ChangeShapes Go.WideShapes Go.ChangeAt
set_option linter.unusedVariables false

end Go.Proofs.Ytmdojlglemnijaa.Rf
namespace Go.Proofs.Ytmdojlglemnijaa.fnExactConsOk
open Go.ChangeShapes Go.WideShapes Go.ChangeAt Go.RowKit Go.Proofs.Ytmdojlglemnijaa.Rf
open Go.ChangeMaps (open_string shut_string)
set_option linter.unusedVariables false
set_option linter.unusedSimpArgs false
theorem own : ownKnob Try.prog.godebug = none := by kernel_rfl
theorem laidOut : laidOutB Try.prog = true := by kernel_rfl
set_option maxRecDepth 100000 in
theorem lifted (os : Os) (started : os.Started) (H : Type) (enc : TypeId × Value → H) :
    ReturnsInHanded {} Try.checked os 8 .any (Rows.fnExactConsOkSpec.pre6 enc Try.prog Try.f8 Rows.fnExactConsOkRow.domain false) (Rows.fnExactConsOkSpec.post enc Try.prog Try.f8 false true false false) := by
  refine returnsInHanded_of_change_sized (C := Try.checked) own started (by kernel_rfl) Try.func8
    (ChangeSpec.witness6 (enc := enc) (C := Try.checked) false ⟨#[], #[.int .i64 0, .int .i64 0, .slice none 0 0, .slice none 0 0, .slice none 0 0], []⟩ 8 (by kernel_rfl) (by kernel_rfl) (by kernel_rfl) (by kernel_rfl)) ?_
  intro W base args ds gs before hval0 hW hcnd hsz0 _
  have hval : ∀ (j : Nat) t v, Try.f8.params[j]? = some t → args[j]? = some v → Value.okWide Try.prog W .any base t v := hval0
  have hW' := hW
  obtain ⟨p, q, hA0, hV, rfl, hfz, hnd⟩ := hW
  have hA : DataW.TrodAll enc Try.prog W 0 (fun _ => true) true Try.f8.params.toList args.toList ds p := hA0
  rw [Try.params8] at hA hval
  obtain ⟨v0, vs0, d0, ds0, p0, q0, hargs, rfl, rfl, h0, r0⟩ := trodAll_cons hA
  obtain ⟨v1, vs1, d1, ds1, p1, q1, rfl, rfl, rfl, h1, r1⟩ := trodAll_cons r0
  obtain ⟨v2, vs2, d2, ds2, p2, q2, rfl, rfl, rfl, h2, r2⟩ := trodAll_cons r1
  obtain ⟨v3, vs3, d3, ds3, p3, q3, rfl, rfl, rfl, h3, r3⟩ := trodAll_cons r2
  obtain ⟨v4, vs4, d4, ds4, p4, q4, rfl, rfl, rfl, h4, r4⟩ := trodAll_cons r3
  obtain ⟨rfl, rfl, rfl⟩ := trodAll_nil r4
  obtain rfl : args = #[v0, v1, v2, v3, v4] := by cases args; simp_all
  obtain ⟨rfl, rfl⟩ := trodVars_none hV
  obtain ⟨y0, rfl, rfl, rfl, w0⟩ := open_int Try.underlying3 (hval 0 3 v0 rfl rfl) h0
  have o0 : I64 y0 := bounds_i64 w0
  obtain ⟨y1, rfl, rfl, rfl, w1⟩ := open_int Try.underlying3 (hval 1 3 v1 rfl rfl) h1
  have o1 : I64 y1 := bounds_i64 w1
  have lt2 : ∀ x ∈ p2, x.block < W.heap.size := by obtain ⟨m, hm⟩ := h2; exact DataW.trod_lt m _ _ _ hm
  obtain ⟨e2, n2, c2, rfl⟩ := okWide_slice Try.underlying22 (hval 2 22 v2 rfl rfl)
  have k2 := h2
  obtain ⟨fuel2, hf2⟩ := h2
  obtain ⟨y2, rr2, o2⟩ := (opensR_bytes Try.underlying22 (by kernel_rfl) Try.underlying5) enc W _ _ _ fuel2 _ _ hf2
  have lt3 : ∀ x ∈ p3, x.block < W.heap.size := by obtain ⟨m, hm⟩ := h3; exact DataW.trod_lt m _ _ _ hm
  obtain ⟨e3, n3, c3, rfl⟩ := okWide_slice Try.underlying22 (hval 3 22 v3 rfl rfl)
  have k3 := h3
  obtain ⟨fuel3, hf3⟩ := h3
  obtain ⟨y3, rr3, o3⟩ := (opensR_bytes Try.underlying22 (by kernel_rfl) Try.underlying5) enc W _ _ _ fuel3 _ _ hf3
  have lt4 : ∀ x ∈ p4, x.block < W.heap.size := by obtain ⟨m, hm⟩ := h4; exact DataW.trod_lt m _ _ _ hm
  obtain ⟨e4, n4, c4, rfl⟩ := okWide_slice Try.underlying23 (hval 4 23 v4 rfl rfl)
  have k4 := h4
  obtain ⟨fuel4, hf4⟩ := h4
  obtain ⟨y4, rr4, o4⟩ := (opensR_bss Try.underlying23 (by kernel_rfl) (opensR_bytes Try.underlying22 (by kernel_rfl) Try.underlying5)) enc W _ _ _ fuel4 _ _ hf4
  clear hA0 hval0 hsz0
  refine (ok_laws_FnExactConsOk y0 y1 y2 y3 y4 o0 o1 o2 o3 o4 W (fun k => k < W.heap.size) [_, _, _, _, _] (fun _ h => h) (.cons (show AOk' _ _ _ (.one _) from .val rfl .nil) (.cons (show AOk' _ _ _ (.one _) from .val rfl .nil) (.cons (show AOk' _ _ _ (.one _) from rr2) (.cons (show AOk' _ _ _ (.one _) from rr3) (.cons (show AOk' _ _ _ (.one _) from rr4) .nil)))))).mono fun e W' hr => ?_
  obtain ⟨he, bel⟩ := ret_true hr
  subst he
  exact ⟨_, rfl, _, _, _, [], _, [], hW', trodAll_mk1 (shut_bool Try.underlying4 _), (trodAll_cons_mk (shut_int Try.underlying3 w0) (trodAll_cons_mk (shut_int Try.underlying3 w1) (trodAll_cons_mk (Below.trod laidOut (by kernel_rfl) (of_decide_eq_true (by kernel_rfl)) k2 bel lt2) (trodAll_cons_mk (Below.trod laidOut (by kernel_rfl) (of_decide_eq_true (by kernel_rfl)) k3 bel lt3) (trodAll_cons_mk (Below.trod laidOut (by kernel_rfl) (of_decide_eq_true (by kernel_rfl)) k4 bel lt4) trodAll_mk0))))), rfl, bel.frame _, fun h => by cases h⟩
theorem over : Rows.fnExactConsOkRow.holds Try.pinned (OpenSpec.ofChange Rows.fnExactConsOkSpec) :=
  OpenClaim.holds_of_wide 8 Try.f8 rfl rfl rfl rfl rfl rfl rfl ⟨rfl, rfl, rfl, rfl, rfl⟩ rfl rfl rfl rfl rfl (by kernel_rfl) Try.func8 (by kernel_rfl)
    (of_decide_eq_true (by kernel_rfl)) (by unfold Func.isWrapper; first | (rw [if_pos (by decide +kernel)]; kernel_rfl) | (rw [if_neg (by decide +kernel)]; exact ⟨rfl, rfl⟩))
    (fun os started H enc _ => lifted os started H enc)
theorem proved : Rows.FnExactConsOkSaid := over
#print axioms proved
end Go.Proofs.Ytmdojlglemnijaa.fnExactConsOk
namespace Go.Proofs.Ytmdojlglemnijaa
/-- The row, under a short name, for the claim. -/
theorem fnExactConsOk_holds : Rows.FnExactConsOkSaid := fnExactConsOk.proved
end Go.Proofs.Ytmdojlglemnijaa
