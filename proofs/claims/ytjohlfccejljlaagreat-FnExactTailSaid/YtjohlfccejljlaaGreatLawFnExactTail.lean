/- The law FnExactTail holds: for every input its call returns true, and each argument reads behind the call as it read before. No condition beside the given row's own. -/
import Derived.Test.YtjohlfccejljlaaGreatRows
import Derived.Test.YtjohlfccejljlaaGreatRFnExactTailx2
namespace Go.Proofs.YtjohlfccejljlaaGreat.Rf
open Go.RowKit Go.ChangeShapes Go.WideShapes Go.ChangeAt
set_option linter.unusedVariables false
theorem opens_23 : OpensR Tryz.prog 23 SLimits.cells SLimits.ok := by
  intro H e w base spare held fuel cs x h
  obtain ⟨xs, n, _, _, hlen, hsz, hf⟩ := DataW.trod_struct Tryz.underlying23 h
  have hl : cs.length = 5 := hlen.trans (by kernel_rfl)
  have hx : xs.length = 5 := hsz
  obtain ⟨y0, r0, w0⟩ := open_field (m := 1) (i := 0) (off := 0) (opensR_int Tryz.underlying3) (by omega) (by kernel_rfl) (hf 0 _ rfl)
  obtain ⟨y1, r1, w1⟩ := open_field (m := 1) (i := 1) (off := 1) (opensR_int Tryz.underlying3) (by omega) (by kernel_rfl) (hf 1 _ rfl)
  obtain ⟨y2, r2, w2⟩ := open_field (m := 1) (i := 2) (off := 2) (opensR_int Tryz.underlying3) (by omega) (by kernel_rfl) (hf 2 _ rfl)
  obtain ⟨y3, r3, w3⟩ := open_field (m := 1) (i := 3) (off := 3) (opensR_int Tryz.underlying3) (by omega) (by kernel_rfl) (hf 3 _ rfl)
  obtain ⟨y4, r4, w4⟩ := open_field (m := 1) (i := 4) (off := 4) (opensR_int Tryz.underlying3) (by omega) (by kernel_rfl) (hf 4 _ rfl)
  have := (rd_fields r0 (rd_fields r1 (rd_fields r2 (rd_fields r3 (rd_fields r4 (rd_fields_nil (off := 5) (by omega)))))))
  rw [List.drop_zero] at this
  exact ⟨⟨y0, y1, y2, y3, y4⟩, this, w0, w1, w2, w3, w4⟩
end Go.Proofs.YtjohlfccejljlaaGreat.Rf
namespace Go.Proofs.YtjohlfccejljlaaGreat.fnExactTail
open Go.ChangeShapes Go.WideShapes Go.ChangeAt Go.RowKit Go.Proofs.YtjohlfccejljlaaGreat.Rf
open Go.ChangeMaps (open_string shut_string)
set_option linter.unusedVariables false
set_option linter.unusedSimpArgs false
theorem own : ownKnob Tryz.prog.godebug = none := by kernel_rfl
theorem laidOut : laidOutB Tryz.prog = true := by kernel_rfl
set_option maxRecDepth 100000 in
theorem lifted (os : Os) (started : os.Started) (H : Type) (enc : TypeId × Value → H) :
    ReturnsInHanded {} Tryz.checked os 4 .any (Rows.fnExactTailSpec.pre6 enc Tryz.prog Tryz.f4 Rows.fnExactTailRow.domain false) (Rows.fnExactTailSpec.post enc Tryz.prog Tryz.f4 false true false false) := by
  refine returnsInHanded_of_change_sized (C := Tryz.checked) own started (by kernel_rfl) Tryz.func4
    (ChangeSpec.witness6 (enc := enc) (C := Tryz.checked) false ⟨#[], #[.agg #[.int .i64 0, .int .i64 0, .int .i64 0, .int .i64 0, .int .i64 0], .slice none 0 0], []⟩ 8 (by kernel_rfl) (by kernel_rfl) (by kernel_rfl) (by kernel_rfl)) ?_
  intro W base args ds gs before hval0 hW hcnd hsz0 _
  have hval : ∀ (j : Nat) t v, Tryz.f4.params[j]? = some t → args[j]? = some v → Value.okWide Tryz.prog W .any base t v := hval0
  have hW' := hW
  obtain ⟨p, q, hA0, hV, rfl, hfz, hnd⟩ := hW
  have hA : DataW.TrodAll enc Tryz.prog W 0 (fun _ => true) true Tryz.f4.params.toList args.toList ds p := hA0
  rw [Tryz.params4] at hA hval
  obtain ⟨v0, vs0, d0, ds0, p0, q0, hargs, rfl, rfl, h0, r0⟩ := trodAll_cons hA
  obtain ⟨v1, vs1, d1, ds1, p1, q1, rfl, rfl, rfl, h1, r1⟩ := trodAll_cons r0
  obtain ⟨rfl, rfl, rfl⟩ := trodAll_nil r1
  obtain rfl : args = #[v0, v1] := by cases args; simp_all
  obtain ⟨rfl, rfl⟩ := trodVars_none hV
  have lt0 : ∀ x ∈ p0, x.block < W.heap.size := by obtain ⟨m, hm⟩ := h0; exact DataW.trod_lt m _ _ _ hm
  obtain ⟨cs0, rfl, _⟩ := okWide_struct Tryz.underlying23 (hval 0 23 v0 rfl rfl)
  have k0 := h0
  obtain ⟨fuel0, hf0⟩ := h0
  obtain ⟨y0, rr0, o0⟩ := opens_23 enc W _ _ _ fuel0 _ _ hf0
  have lt1 : ∀ x ∈ p1, x.block < W.heap.size := by obtain ⟨m, hm⟩ := h1; exact DataW.trod_lt m _ _ _ hm
  obtain ⟨e1, n1, c1, rfl⟩ := okWide_slice Tryz.underlying24 (hval 1 24 v1 rfl rfl)
  have k1 := h1
  obtain ⟨fuel1, hf1⟩ := h1
  obtain ⟨y1, rr1, o1⟩ := (opensR_bytes Tryz.underlying24 (by kernel_rfl) Tryz.underlying5) enc W _ _ _ fuel1 _ _ hf1
  clear hA0 hval0 hsz0
  refine (ok_laws_FnExactTail y0 y1 o0 o1 W (fun k => k < W.heap.size) [_, _] (fun _ h => h) (.cons (show AOk' _ _ _ (.agg _) from ⟨_, rfl, rr0⟩) (.cons (show AOk' _ _ _ (.one _) from rr1) .nil))).mono fun e W' hr => ?_
  obtain ⟨he, bel⟩ := ret_true hr
  subst he
  exact ⟨_, rfl, _, _, _, [], _, [], hW', trodAll_mk1 (shut_bool Tryz.underlying4 _), (trodAll_cons_mk (Below.trod laidOut (by kernel_rfl) (of_decide_eq_true (by kernel_rfl)) k0 bel lt0) (trodAll_cons_mk (Below.trod laidOut (by kernel_rfl) (of_decide_eq_true (by kernel_rfl)) k1 bel lt1) trodAll_mk0)), rfl, bel.frame _, fun h => by cases h⟩
theorem over : Rows.fnExactTailRow.holds Tryz.pinned (OpenSpec.ofChange Rows.fnExactTailSpec) :=
  OpenClaim.holds_of_wide 4 Tryz.f4 rfl rfl rfl rfl rfl rfl rfl ⟨rfl, rfl, rfl, rfl, rfl⟩ rfl rfl rfl rfl rfl (by kernel_rfl) Tryz.func4 (by kernel_rfl)
    (of_decide_eq_true (by kernel_rfl)) (by unfold Func.isWrapper; first | (rw [if_pos (by decide +kernel)]; kernel_rfl) | (rw [if_neg (by decide +kernel)]; exact ⟨rfl, rfl⟩))
    (fun os started H enc _ => lifted os started H enc)
theorem proved : Rows.FnExactTailSaid := over
#print axioms proved
end Go.Proofs.YtjohlfccejljlaaGreat.fnExactTail
namespace Go.Proofs.YtjohlfccejljlaaGreat
/-- The row, under a short name, for the claim. -/
theorem fnExactTail_holds : Rows.FnExactTailSaid := fnExactTail.proved
end Go.Proofs.YtjohlfccejljlaaGreat
