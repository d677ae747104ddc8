/- The law FnExactEventsSame holds: for every input its call returns true, and each argument reads behind the call as it read before. No condition beside the given row's own. -/
import Derived.Test.YtppldhkkhadngaaRows
import Derived.Test.YtppldhkkhadngaaRFnExactEventsSamex3
namespace Go.Proofs.Ytppldhkkhadngaa.Rf
open Go.RowKit Go.ChangeShapes Go.WideShapes Go.ChangeAt
set_option linter.unusedVariables false
theorem opens_24 : OpensR Try.prog 24 SVote.cells SVote.ok := by
  intro H e w base spare held fuel cs x h
  obtain ⟨xs, n, _, _, hlen, hsz, hf⟩ := DataW.trod_struct Try.underlying24 h
  have hl : cs.length = 5 := hlen.trans (by kernel_rfl)
  have hx : xs.length = 5 := hsz
  obtain ⟨y0, r0, w0⟩ := open_field (m := 1) (i := 0) (off := 0) (opensR_int Try.underlying3) (by omega) (by kernel_rfl) (hf 0 _ rfl)
  obtain ⟨y1, r1, w1⟩ := open_field (m := 1) (i := 1) (off := 1) (opensR_int Try.underlying3) (by omega) (by kernel_rfl) (hf 1 _ rfl)
  obtain ⟨y2, r2, w2⟩ := open_field (m := 1) (i := 2) (off := 2) (opensR_bytes Try.underlying22 (by kernel_rfl) Try.underlying5) (by omega) (by kernel_rfl) (hf 2 _ rfl)
  obtain ⟨y3, r3, w3⟩ := open_field (m := 1) (i := 3) (off := 3) (opensR_int Try.underlying3) (by omega) (by kernel_rfl) (hf 3 _ rfl)
  obtain ⟨y4, r4, w4⟩ := open_field (m := 1) (i := 4) (off := 4) (opensR_bytes Try.underlying22 (by kernel_rfl) Try.underlying5) (by omega) (by kernel_rfl) (hf 4 _ rfl)
  have := (rd_fields r0 (rd_fields r1 (rd_fields r2 (rd_fields r3 (rd_fields r4 (rd_fields_nil (off := 5) (by omega)))))))
  rw [List.drop_zero] at this
  exact ⟨⟨y0, y1, y2, y3, y4⟩, this, w0, w1, w2, w3, w4⟩
theorem opens_51 : OpensR Try.prog 51 SQc.cells SQc.ok := by
  intro H e w base spare held fuel cs x h
  obtain ⟨xs, n, _, _, hlen, hsz, hf⟩ := DataW.trod_struct Try.underlying51 h
  have hl : cs.length = 5 := hlen.trans (by kernel_rfl)
  have hx : xs.length = 5 := hsz
  obtain ⟨y0, r0, w0⟩ := open_field (m := 1) (i := 0) (off := 0) (opensR_int Try.underlying3) (by omega) (by kernel_rfl) (hf 0 _ rfl)
  obtain ⟨y1, r1, w1⟩ := open_field (m := 1) (i := 1) (off := 1) (opensR_int Try.underlying3) (by omega) (by kernel_rfl) (hf 1 _ rfl)
  obtain ⟨y2, r2, w2⟩ := open_field (m := 1) (i := 2) (off := 2) (opensR_bytes Try.underlying22 (by kernel_rfl) Try.underlying5) (by omega) (by kernel_rfl) (hf 2 _ rfl)
  obtain ⟨y3, r3, w3⟩ := open_field (m := 1) (i := 3) (off := 3) (opensR_bytes Try.underlying22 (by kernel_rfl) Try.underlying5) (by omega) (by kernel_rfl) (hf 3 _ rfl)
  obtain ⟨y4, r4, w4⟩ := open_field (m := 1) (i := 4) (off := 4) (opensR_bss Try.underlying27 (by kernel_rfl) (opensR_bytes Try.underlying22 (by kernel_rfl) Try.underlying5)) (by omega) (by kernel_rfl) (hf 4 _ rfl)
  have := (rd_fields r0 (rd_fields r1 (rd_fields r2 (rd_fields r3 (rd_fields r4 (rd_fields_nil (off := 5) (by omega)))))))
  rw [List.drop_zero] at this
  exact ⟨⟨y0, y1, y2, y3, y4⟩, this, w0, w1, w2, w3, w4⟩
theorem opens_53 : OpensR Try.prog 53 SHead.cells SHead.ok := by
  intro H e w base spare held fuel cs x h
  obtain ⟨xs, n, _, _, hlen, hsz, hf⟩ := DataW.trod_struct Try.underlying53 h
  have hl : cs.length = 10 := hlen.trans (by kernel_rfl)
  have hx : xs.length = 6 := hsz
  obtain ⟨y0, r0, w0⟩ := open_field (m := 1) (i := 0) (off := 0) (opensR_int Try.underlying3) (by omega) (by kernel_rfl) (hf 0 _ rfl)
  obtain ⟨y1, r1, w1⟩ := open_field (m := 1) (i := 1) (off := 1) (opensR_int Try.underlying3) (by omega) (by kernel_rfl) (hf 1 _ rfl)
  obtain ⟨y2, r2, w2⟩ := open_field (m := 1) (i := 2) (off := 2) (opensR_int Try.underlying3) (by omega) (by kernel_rfl) (hf 2 _ rfl)
  obtain ⟨y3, r3, w3⟩ := open_field (m := 1) (i := 3) (off := 3) (opensR_bytes Try.underlying22 (by kernel_rfl) Try.underlying5) (by omega) (by kernel_rfl) (hf 3 _ rfl)
  obtain ⟨y4, r4, w4⟩ := open_field (m := 1) (i := 4) (off := 4) (opensR_bytes Try.underlying22 (by kernel_rfl) Try.underlying5) (by omega) (by kernel_rfl) (hf 4 _ rfl)
  obtain ⟨y5, r5, w5⟩ := open_field (m := 5) (i := 5) (off := 5) opens_51 (by omega) (by kernel_rfl) (hf 5 _ rfl)
  have := (rd_fields r0 (rd_fields r1 (rd_fields r2 (rd_fields r3 (rd_fields r4 (rd_fields r5 (rd_fields_nil (off := 10) (by omega))))))))
  rw [List.drop_zero] at this
  exact ⟨⟨y0, y1, y2, y3, y4, y5⟩, this, w0, w1, w2, w3, w4, w5⟩
theorem opens_55 : OpensR Try.prog 55 SBlock.cells SBlock.ok := by
  intro H e w base spare held fuel cs x h
  obtain ⟨xs, n, _, _, hlen, hsz, hf⟩ := DataW.trod_struct Try.underlying55 h
  have hl : cs.length = 11 := hlen.trans (by kernel_rfl)
  have hx : xs.length = 2 := hsz
  obtain ⟨y0, r0, w0⟩ := open_field (m := 10) (i := 0) (off := 0) opens_53 (by omega) (by kernel_rfl) (hf 0 _ rfl)
  obtain ⟨y1, r1, w1⟩ := open_field (m := 1) (i := 1) (off := 10) (opensR_bss Try.underlying27 (by kernel_rfl) (opensR_bytes Try.underlying22 (by kernel_rfl) Try.underlying5)) (by omega) (by kernel_rfl) (hf 1 _ rfl)
  have := (rd_fields r0 (rd_fields r1 (rd_fields_nil (off := 11) (by omega))))
  rw [List.drop_zero] at this
  exact ⟨⟨y0, y1⟩, this, w0, w1⟩
theorem opens_138 : OpensR Try.prog 138 SEntry.cells SEntry.ok := by
  intro H e w base spare held fuel cs x h
  obtain ⟨xs, n, _, _, hlen, hsz, hf⟩ := DataW.trod_struct Try.underlying138 h
  have hl : cs.length = 3 := hlen.trans (by kernel_rfl)
  have hx : xs.length = 3 := hsz
  obtain ⟨y0, r0, w0⟩ := open_field (m := 1) (i := 0) (off := 0) (opensR_int Try.underlying3) (by omega) (by kernel_rfl) (hf 0 _ rfl)
  obtain ⟨y1, r1, w1⟩ := open_field (m := 1) (i := 1) (off := 1) (opensR_int Try.underlying3) (by omega) (by kernel_rfl) (hf 1 _ rfl)
  obtain ⟨y2, r2, w2⟩ := open_field (m := 1) (i := 2) (off := 2) (opensR_bytes Try.underlying22 (by kernel_rfl) Try.underlying5) (by omega) (by kernel_rfl) (hf 2 _ rfl)
  have := (rd_fields r0 (rd_fields r1 (rd_fields r2 (rd_fields_nil (off := 3) (by omega)))))
  rw [List.drop_zero] at this
  exact ⟨⟨y0, y1, y2⟩, this, w0, w1, w2⟩
theorem opens_58 : OpensR Try.prog 58 STc.cells STc.ok := by
  intro H e w base spare held fuel cs x h
  obtain ⟨xs, n, _, _, hlen, hsz, hf⟩ := DataW.trod_struct Try.underlying58 h
  have hl : cs.length = 2 := hlen.trans (by kernel_rfl)
  have hx : xs.length = 2 := hsz
  obtain ⟨y0, r0, w0⟩ := open_field (m := 1) (i := 0) (off := 0) (opensR_int Try.underlying3) (by omega) (by kernel_rfl) (hf 0 _ rfl)
  obtain ⟨y1, r1, w1⟩ := open_field (m := 1) (i := 1) (off := 1) (opensR_sl Try.underlying56 (by kernel_rfl) (lt_ok rfl) SEntry.len opens_138) (by omega) (by kernel_rfl) (hf 1 _ rfl)
  have := (rd_fields r0 (rd_fields r1 (rd_fields_nil (off := 2) (by omega))))
  rw [List.drop_zero] at this
  exact ⟨⟨y0, y1⟩, this, w0, w1⟩
theorem opens_61 : OpensR Try.prog 61 SProof.cells SProof.ok := by
  intro H e w base spare held fuel cs x h
  obtain ⟨xs, n, _, _, hlen, hsz, hf⟩ := DataW.trod_struct Try.underlying61 h
  have hl : cs.length = 6 := hlen.trans (by kernel_rfl)
  have hx : xs.length = 2 := hsz
  obtain ⟨y0, r0, w0⟩ := open_field (m := 1) (i := 0) (off := 0) (opensR_sl Try.underlying59 (by kernel_rfl) (lt_ok rfl) SHead.len opens_53) (by omega) (by kernel_rfl) (hf 0 _ rfl)
  obtain ⟨y1, r1, w1⟩ := open_field (m := 5) (i := 1) (off := 1) opens_51 (by omega) (by kernel_rfl) (hf 1 _ rfl)
  have := (rd_fields r0 (rd_fields r1 (rd_fields_nil (off := 6) (by omega))))
  rw [List.drop_zero] at this
  exact ⟨⟨y0, y1⟩, this, w0, w1⟩
theorem opens_62 : OpensR Try.prog 62 SIncl.cells SIncl.ok := by
  intro H e w base spare held fuel cs x h
  obtain ⟨xs, n, _, _, hlen, hsz, hf⟩ := DataW.trod_struct Try.underlying62 h
  have hl : cs.length = 5 := hlen.trans (by kernel_rfl)
  have hx : xs.length = 5 := hsz
  obtain ⟨y0, r0, w0⟩ := open_field (m := 1) (i := 0) (off := 0) (opensR_int Try.underlying3) (by omega) (by kernel_rfl) (hf 0 _ rfl)
  obtain ⟨y1, r1, w1⟩ := open_field (m := 1) (i := 1) (off := 1) (opensR_int Try.underlying3) (by omega) (by kernel_rfl) (hf 1 _ rfl)
  obtain ⟨y2, r2, w2⟩ := open_field (m := 1) (i := 2) (off := 2) (opensR_int Try.underlying3) (by omega) (by kernel_rfl) (hf 2 _ rfl)
  obtain ⟨y3, r3, w3⟩ := open_field (m := 1) (i := 3) (off := 3) (opensR_bytes Try.underlying22 (by kernel_rfl) Try.underlying5) (by omega) (by kernel_rfl) (hf 3 _ rfl)
  obtain ⟨y4, r4, w4⟩ := open_field (m := 1) (i := 4) (off := 4) (opensR_bss Try.underlying27 (by kernel_rfl) (opensR_bytes Try.underlying22 (by kernel_rfl) Try.underlying5)) (by omega) (by kernel_rfl) (hf 4 _ rfl)
  have := (rd_fields r0 (rd_fields r1 (rd_fields r2 (rd_fields r3 (rd_fields r4 (rd_fields_nil (off := 5) (by omega)))))))
  rw [List.drop_zero] at this
  exact ⟨⟨y0, y1, y2, y3, y4⟩, this, w0, w1, w2, w3, w4⟩
theorem opens_64 : OpensR Try.prog 64 SMsg.cells SMsg.ok := by
  intro H e w base spare held fuel cs x h
  obtain ⟨xs, n, _, _, hlen, hsz, hf⟩ := DataW.trod_struct Try.underlying64 h
  have hl : cs.length = 45 := hlen.trans (by kernel_rfl)
  have hx : xs.length = 8 := hsz
  obtain ⟨y0, r0, w0⟩ := open_field (m := 1) (i := 0) (off := 0) (opensR_int Try.underlying3) (by omega) (by kernel_rfl) (hf 0 _ rfl)
  obtain ⟨y1, r1, w1⟩ := open_field (m := 5) (i := 1) (off := 1) opens_24 (by omega) (by kernel_rfl) (hf 1 _ rfl)
  obtain ⟨y2, r2, w2⟩ := open_field (m := 5) (i := 2) (off := 6) opens_51 (by omega) (by kernel_rfl) (hf 2 _ rfl)
  obtain ⟨y3, r3, w3⟩ := open_field (m := 10) (i := 3) (off := 11) opens_53 (by omega) (by kernel_rfl) (hf 3 _ rfl)
  obtain ⟨y4, r4, w4⟩ := open_field (m := 11) (i := 4) (off := 21) opens_55 (by omega) (by kernel_rfl) (hf 4 _ rfl)
  obtain ⟨y5, r5, w5⟩ := open_field (m := 2) (i := 5) (off := 32) opens_58 (by omega) (by kernel_rfl) (hf 5 _ rfl)
  obtain ⟨y6, r6, w6⟩ := open_field (m := 6) (i := 6) (off := 34) opens_61 (by omega) (by kernel_rfl) (hf 6 _ rfl)
  obtain ⟨y7, r7, w7⟩ := open_field (m := 5) (i := 7) (off := 40) opens_62 (by omega) (by kernel_rfl) (hf 7 _ rfl)
  have := (rd_fields r0 (rd_fields r1 (rd_fields r2 (rd_fields r3 (rd_fields r4 (rd_fields r5 (rd_fields r6 (rd_fields r7 (rd_fields_nil (off := 45) (by omega))))))))))
  rw [List.drop_zero] at this
  exact ⟨⟨y0, y1, y2, y3, y4, y5, y6, y7⟩, this, w0, w1, w2, w3, w4, w5, w6, w7⟩
theorem opens_69 : OpensR Try.prog 69 SEvent.cells SEvent.ok := by
  intro H e w base spare held fuel cs x h
  obtain ⟨xs, n, _, _, hlen, hsz, hf⟩ := DataW.trod_struct Try.underlying69 h
  have hl : cs.length = 47 := hlen.trans (by kernel_rfl)
  have hx : xs.length = 3 := hsz
  obtain ⟨y0, r0, w0⟩ := open_field (m := 1) (i := 0) (off := 0) (opensR_int Try.underlying3) (by omega) (by kernel_rfl) (hf 0 _ rfl)
  obtain ⟨y1, r1, w1⟩ := open_field (m := 1) (i := 1) (off := 1) (opensR_int Try.underlying3) (by omega) (by kernel_rfl) (hf 1 _ rfl)
  obtain ⟨y2, r2, w2⟩ := open_field (m := 45) (i := 2) (off := 2) opens_64 (by omega) (by kernel_rfl) (hf 2 _ rfl)
  have := (rd_fields r0 (rd_fields r1 (rd_fields r2 (rd_fields_nil (off := 47) (by omega)))))
  rw [List.drop_zero] at this
  exact ⟨⟨y0, y1, y2⟩, this, w0, w1, w2⟩
end Go.Proofs.Ytppldhkkhadngaa.Rf
namespace Go.Proofs.Ytppldhkkhadngaa.fnExactEventsSame
open Go.ChangeShapes Go.WideShapes Go.ChangeAt Go.RowKit Go.Proofs.Ytppldhkkhadngaa.Rf
open Go.ChangeMaps (open_string shut_string)
set_option linter.unusedVariables false
set_option linter.unusedSimpArgs false
theorem own : ownKnob Try.prog.godebug = none := by kernel_rfl
theorem laidOut : laidOutB Try.prog = true := by kernel_rfl
set_option maxRecDepth 100000 in
theorem lifted (os : Os) (started : os.Started) (H : Type) (enc : TypeId × Value → H) :
    ReturnsInHanded {} Try.checked os 6 .any (Rows.fnExactEventsSameSpec.pre6 enc Try.prog Try.f6 Rows.fnExactEventsSameRow.domain false) (Rows.fnExactEventsSameSpec.post enc Try.prog Try.f6 false true false false) := by
  refine returnsInHanded_of_change_sized (C := Try.checked) own started (by kernel_rfl) Try.func6
    (ChangeSpec.witness6 (enc := enc) (C := Try.checked) false ⟨#[], #[.slice none 0 0, .slice none 0 0], []⟩ 8 (by kernel_rfl) (by kernel_rfl) (by kernel_rfl) (by kernel_rfl)) ?_
  intro W base args ds gs before hval0 hW hcnd hsz0 _
  have hval : ∀ (j : Nat) t v, Try.f6.params[j]? = some t → args[j]? = some v → Value.okWide Try.prog W .any base t v := hval0
  have hW' := hW
  obtain ⟨p, q, hA0, hV, rfl, hfz, hnd⟩ := hW
  have hA : DataW.TrodAll enc Try.prog W 0 (fun _ => true) true Try.f6.params.toList args.toList ds p := hA0
  rw [Try.params6] at hA hval
  obtain ⟨v0, vs0, d0, ds0, p0, q0, hargs, rfl, rfl, h0, r0⟩ := trodAll_cons hA
  obtain ⟨v1, vs1, d1, ds1, p1, q1, rfl, rfl, rfl, h1, r1⟩ := trodAll_cons r0
  obtain ⟨rfl, rfl, rfl⟩ := trodAll_nil r1
  obtain rfl : args = #[v0, v1] := by cases args; simp_all
  obtain ⟨rfl, rfl⟩ := trodVars_none hV
  have lt0 : ∀ x ∈ p0, x.block < W.heap.size := by obtain ⟨m, hm⟩ := h0; exact DataW.trod_lt m _ _ _ hm
  obtain ⟨e0, n0, c0, rfl⟩ := okWide_slice Try.underlying76 (hval 0 76 v0 rfl rfl)
  have k0 := h0
  obtain ⟨fuel0, hf0⟩ := h0
  obtain ⟨y0, rr0, o0⟩ := (opensR_sl Try.underlying76 (by kernel_rfl) (lt_ok rfl) SEvent.len opens_69) enc W _ _ _ fuel0 _ _ hf0
  have lt1 : ∀ x ∈ p1, x.block < W.heap.size := by obtain ⟨m, hm⟩ := h1; exact DataW.trod_lt m _ _ _ hm
  obtain ⟨e1, n1, c1, rfl⟩ := okWide_slice Try.underlying76 (hval 1 76 v1 rfl rfl)
  have k1 := h1
  obtain ⟨fuel1, hf1⟩ := h1
  obtain ⟨y1, rr1, o1⟩ := (opensR_sl Try.underlying76 (by kernel_rfl) (lt_ok rfl) SEvent.len opens_69) enc W _ _ _ fuel1 _ _ hf1
  clear hA0 hval0 hsz0
  refine (ok_laws_FnExactEventsSame y0 y1 o0 o1 W (fun k => k < W.heap.size) [_, _] (fun _ h => h) (.cons (show AOk' _ _ _ (.one _) from rr0) (.cons (show AOk' _ _ _ (.one _) from rr1) .nil))).mono fun e W' hr => ?_
  obtain ⟨he, bel⟩ := ret_true hr
  subst he
  exact ⟨_, rfl, _, _, _, [], _, [], hW', trodAll_mk1 (shut_bool Try.underlying4 _), (trodAll_cons_mk (Below.trod laidOut (by kernel_rfl) (of_decide_eq_true (by kernel_rfl)) k0 bel lt0) (trodAll_cons_mk (Below.trod laidOut (by kernel_rfl) (of_decide_eq_true (by kernel_rfl)) k1 bel lt1) trodAll_mk0)), rfl, bel.frame _, fun h => by cases h⟩
theorem over : Rows.fnExactEventsSameRow.holds Try.pinned (OpenSpec.ofChange Rows.fnExactEventsSameSpec) :=
  OpenClaim.holds_of_wide 6 Try.f6 rfl rfl rfl rfl rfl rfl rfl ⟨rfl, rfl, rfl, rfl, rfl⟩ rfl rfl rfl rfl rfl (by kernel_rfl) Try.func6 (by kernel_rfl)
    (of_decide_eq_true (by kernel_rfl)) (by unfold Func.isWrapper; first | (rw [if_pos (by decide +kernel)]; kernel_rfl) | (rw [if_neg (by decide +kernel)]; exact ⟨rfl, rfl⟩))
    (fun os started H enc _ => lifted os started H enc)
theorem proved : Rows.FnExactEventsSameSaid := over
#print axioms proved
end Go.Proofs.Ytppldhkkhadngaa.fnExactEventsSame
namespace Go.Proofs.Ytppldhkkhadngaa
/-- The row, under a short name, for the claim. -/
theorem fnExactEventsSame_holds : Rows.FnExactEventsSameSaid := fnExactEventsSame.proved
end Go.Proofs.Ytppldhkkhadngaa
