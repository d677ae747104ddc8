/- The law FnExactSkipped holds: for every input its call returns true, and each argument reads behind the call as it read before. No condition beside the given row's own. -/
import Derived.Test.YtniapflmmigbjaaRows
import Derived.Test.YtniapflmmigbjaaRFnExactSkippedx1
namespace Go.Proofs.Ytniapflmmigbjaa.Rf
open Go.RowKit Go.ChangeShapes Go.WideShapes Go.ChangeAt
set_option linter.unusedVariables false
theorem opens_142 : OpensR Try.prog 142 SVote.cells SVote.ok := by
  intro H e w base spare held fuel cs x h
  obtain ⟨xs, n, _, _, hlen, hsz, hf⟩ := DataW.trod_struct Try.underlying142 h
  have hl : cs.length = 5 := hlen.trans (by kernel_rfl)
  have hx : xs.length = 5 := hsz
  obtain ⟨y0, r0, w0⟩ := open_field (m := 1) (i := 0) (off := 0) (opensR_int Try.underlying3) (by omega) (by kernel_rfl) (hf 0 _ rfl)
  obtain ⟨y1, r1, w1⟩ := open_field (m := 1) (i := 1) (off := 1) (opensR_int Try.underlying3) (by omega) (by kernel_rfl) (hf 1 _ rfl)
  obtain ⟨y2, r2, w2⟩ := open_field (m := 1) (i := 2) (off := 2) (opensR_bytes Try.underlying37 (by kernel_rfl) Try.underlying5) (by omega) (by kernel_rfl) (hf 2 _ rfl)
  obtain ⟨y3, r3, w3⟩ := open_field (m := 1) (i := 3) (off := 3) (opensR_int Try.underlying3) (by omega) (by kernel_rfl) (hf 3 _ rfl)
  obtain ⟨y4, r4, w4⟩ := open_field (m := 1) (i := 4) (off := 4) (opensR_bytes Try.underlying37 (by kernel_rfl) Try.underlying5) (by omega) (by kernel_rfl) (hf 4 _ rfl)
  have := (rd_fields r0 (rd_fields r1 (rd_fields r2 (rd_fields r3 (rd_fields r4 (rd_fields_nil (off := 5) (by omega)))))))
  rw [List.drop_zero] at this
  exact ⟨⟨y0, y1, y2, y3, y4⟩, this, w0, w1, w2, w3, w4⟩
theorem opens_48 : OpensR Try.prog 48 SQc.cells SQc.ok := by
  intro H e w base spare held fuel cs x h
  obtain ⟨xs, n, _, _, hlen, hsz, hf⟩ := DataW.trod_struct Try.underlying48 h
  have hl : cs.length = 5 := hlen.trans (by kernel_rfl)
  have hx : xs.length = 5 := hsz
  obtain ⟨y0, r0, w0⟩ := open_field (m := 1) (i := 0) (off := 0) (opensR_int Try.underlying3) (by omega) (by kernel_rfl) (hf 0 _ rfl)
  obtain ⟨y1, r1, w1⟩ := open_field (m := 1) (i := 1) (off := 1) (opensR_int Try.underlying3) (by omega) (by kernel_rfl) (hf 1 _ rfl)
  obtain ⟨y2, r2, w2⟩ := open_field (m := 1) (i := 2) (off := 2) (opensR_bytes Try.underlying37 (by kernel_rfl) Try.underlying5) (by omega) (by kernel_rfl) (hf 2 _ rfl)
  obtain ⟨y3, r3, w3⟩ := open_field (m := 1) (i := 3) (off := 3) (opensR_bytes Try.underlying37 (by kernel_rfl) Try.underlying5) (by omega) (by kernel_rfl) (hf 3 _ rfl)
  obtain ⟨y4, r4, w4⟩ := open_field (m := 1) (i := 4) (off := 4) (opensR_bss Try.underlying38 (by kernel_rfl) (opensR_bytes Try.underlying37 (by kernel_rfl) Try.underlying5)) (by omega) (by kernel_rfl) (hf 4 _ rfl)
  have := (rd_fields r0 (rd_fields r1 (rd_fields r2 (rd_fields r3 (rd_fields r4 (rd_fields_nil (off := 5) (by omega)))))))
  rw [List.drop_zero] at this
  exact ⟨⟨y0, y1, y2, y3, y4⟩, this, w0, w1, w2, w3, w4⟩
theorem opens_50 : OpensR Try.prog 50 SHead.cells SHead.ok := by
  intro H e w base spare held fuel cs x h
  obtain ⟨xs, n, _, _, hlen, hsz, hf⟩ := DataW.trod_struct Try.underlying50 h
  have hl : cs.length = 10 := hlen.trans (by kernel_rfl)
  have hx : xs.length = 6 := hsz
  obtain ⟨y0, r0, w0⟩ := open_field (m := 1) (i := 0) (off := 0) (opensR_int Try.underlying3) (by omega) (by kernel_rfl) (hf 0 _ rfl)
  obtain ⟨y1, r1, w1⟩ := open_field (m := 1) (i := 1) (off := 1) (opensR_int Try.underlying3) (by omega) (by kernel_rfl) (hf 1 _ rfl)
  obtain ⟨y2, r2, w2⟩ := open_field (m := 1) (i := 2) (off := 2) (opensR_int Try.underlying3) (by omega) (by kernel_rfl) (hf 2 _ rfl)
  obtain ⟨y3, r3, w3⟩ := open_field (m := 1) (i := 3) (off := 3) (opensR_bytes Try.underlying37 (by kernel_rfl) Try.underlying5) (by omega) (by kernel_rfl) (hf 3 _ rfl)
  obtain ⟨y4, r4, w4⟩ := open_field (m := 1) (i := 4) (off := 4) (opensR_bytes Try.underlying37 (by kernel_rfl) Try.underlying5) (by omega) (by kernel_rfl) (hf 4 _ rfl)
  obtain ⟨y5, r5, w5⟩ := open_field (m := 5) (i := 5) (off := 5) opens_48 (by omega) (by kernel_rfl) (hf 5 _ rfl)
  have := (rd_fields r0 (rd_fields r1 (rd_fields r2 (rd_fields r3 (rd_fields r4 (rd_fields r5 (rd_fields_nil (off := 10) (by omega))))))))
  rw [List.drop_zero] at this
  exact ⟨⟨y0, y1, y2, y3, y4, y5⟩, this, w0, w1, w2, w3, w4, w5⟩
theorem opens_64 : OpensR Try.prog 64 SBlock.cells SBlock.ok := by
  intro H e w base spare held fuel cs x h
  obtain ⟨xs, n, _, _, hlen, hsz, hf⟩ := DataW.trod_struct Try.underlying64 h
  have hl : cs.length = 11 := hlen.trans (by kernel_rfl)
  have hx : xs.length = 2 := hsz
  obtain ⟨y0, r0, w0⟩ := open_field (m := 10) (i := 0) (off := 0) opens_50 (by omega) (by kernel_rfl) (hf 0 _ rfl)
  obtain ⟨y1, r1, w1⟩ := open_field (m := 1) (i := 1) (off := 10) (opensR_bss Try.underlying38 (by kernel_rfl) (opensR_bytes Try.underlying37 (by kernel_rfl) Try.underlying5)) (by omega) (by kernel_rfl) (hf 1 _ rfl)
  have := (rd_fields r0 (rd_fields r1 (rd_fields_nil (off := 11) (by omega))))
  rw [List.drop_zero] at this
  exact ⟨⟨y0, y1⟩, this, w0, w1⟩
theorem opens_156 : OpensR Try.prog 156 SEntry.cells SEntry.ok := by
  intro H e w base spare held fuel cs x h
  obtain ⟨xs, n, _, _, hlen, hsz, hf⟩ := DataW.trod_struct Try.underlying156 h
  have hl : cs.length = 3 := hlen.trans (by kernel_rfl)
  have hx : xs.length = 3 := hsz
  obtain ⟨y0, r0, w0⟩ := open_field (m := 1) (i := 0) (off := 0) (opensR_int Try.underlying3) (by omega) (by kernel_rfl) (hf 0 _ rfl)
  obtain ⟨y1, r1, w1⟩ := open_field (m := 1) (i := 1) (off := 1) (opensR_int Try.underlying3) (by omega) (by kernel_rfl) (hf 1 _ rfl)
  obtain ⟨y2, r2, w2⟩ := open_field (m := 1) (i := 2) (off := 2) (opensR_bytes Try.underlying37 (by kernel_rfl) Try.underlying5) (by omega) (by kernel_rfl) (hf 2 _ rfl)
  have := (rd_fields r0 (rd_fields r1 (rd_fields r2 (rd_fields_nil (off := 3) (by omega)))))
  rw [List.drop_zero] at this
  exact ⟨⟨y0, y1, y2⟩, this, w0, w1, w2⟩
theorem opens_26 : OpensR Try.prog 26 STc.cells STc.ok := by
  intro H e w base spare held fuel cs x h
  obtain ⟨xs, n, _, _, hlen, hsz, hf⟩ := DataW.trod_struct Try.underlying26 h
  have hl : cs.length = 2 := hlen.trans (by kernel_rfl)
  have hx : xs.length = 2 := hsz
  obtain ⟨y0, r0, w0⟩ := open_field (m := 1) (i := 0) (off := 0) (opensR_int Try.underlying3) (by omega) (by kernel_rfl) (hf 0 _ rfl)
  obtain ⟨y1, r1, w1⟩ := open_field (m := 1) (i := 1) (off := 1) (opensR_sl Try.underlying24 (by kernel_rfl) (lt_ok rfl) SEntry.len opens_156) (by omega) (by kernel_rfl) (hf 1 _ rfl)
  have := (rd_fields r0 (rd_fields r1 (rd_fields_nil (off := 2) (by omega))))
  rw [List.drop_zero] at this
  exact ⟨⟨y0, y1⟩, this, w0, w1⟩
theorem opens_79 : OpensR Try.prog 79 SProof.cells SProof.ok := by
  intro H e w base spare held fuel cs x h
  obtain ⟨xs, n, _, _, hlen, hsz, hf⟩ := DataW.trod_struct Try.underlying79 h
  have hl : cs.length = 6 := hlen.trans (by kernel_rfl)
  have hx : xs.length = 2 := hsz
  obtain ⟨y0, r0, w0⟩ := open_field (m := 1) (i := 0) (off := 0) (opensR_sl Try.underlying77 (by kernel_rfl) (lt_ok rfl) SHead.len opens_50) (by omega) (by kernel_rfl) (hf 0 _ rfl)
  obtain ⟨y1, r1, w1⟩ := open_field (m := 5) (i := 1) (off := 1) opens_48 (by omega) (by kernel_rfl) (hf 1 _ rfl)
  have := (rd_fields r0 (rd_fields r1 (rd_fields_nil (off := 6) (by omega))))
  rw [List.drop_zero] at this
  exact ⟨⟨y0, y1⟩, this, w0, w1⟩
theorem opens_40 : OpensR Try.prog 40 SIncl.cells SIncl.ok := by
  intro H e w base spare held fuel cs x h
  obtain ⟨xs, n, _, _, hlen, hsz, hf⟩ := DataW.trod_struct Try.underlying40 h
  have hl : cs.length = 5 := hlen.trans (by kernel_rfl)
  have hx : xs.length = 5 := hsz
  obtain ⟨y0, r0, w0⟩ := open_field (m := 1) (i := 0) (off := 0) (opensR_int Try.underlying3) (by omega) (by kernel_rfl) (hf 0 _ rfl)
  obtain ⟨y1, r1, w1⟩ := open_field (m := 1) (i := 1) (off := 1) (opensR_int Try.underlying3) (by omega) (by kernel_rfl) (hf 1 _ rfl)
  obtain ⟨y2, r2, w2⟩ := open_field (m := 1) (i := 2) (off := 2) (opensR_int Try.underlying3) (by omega) (by kernel_rfl) (hf 2 _ rfl)
  obtain ⟨y3, r3, w3⟩ := open_field (m := 1) (i := 3) (off := 3) (opensR_bytes Try.underlying37 (by kernel_rfl) Try.underlying5) (by omega) (by kernel_rfl) (hf 3 _ rfl)
  obtain ⟨y4, r4, w4⟩ := open_field (m := 1) (i := 4) (off := 4) (opensR_bss Try.underlying38 (by kernel_rfl) (opensR_bytes Try.underlying37 (by kernel_rfl) Try.underlying5)) (by omega) (by kernel_rfl) (hf 4 _ rfl)
  have := (rd_fields r0 (rd_fields r1 (rd_fields r2 (rd_fields r3 (rd_fields r4 (rd_fields_nil (off := 5) (by omega)))))))
  rw [List.drop_zero] at this
  exact ⟨⟨y0, y1, y2, y3, y4⟩, this, w0, w1, w2, w3, w4⟩
theorem opens_146 : OpensR Try.prog 146 SMsg.cells SMsg.ok := by
  intro H e w base spare held fuel cs x h
  obtain ⟨xs, n, _, _, hlen, hsz, hf⟩ := DataW.trod_struct Try.underlying146 h
  have hl : cs.length = 45 := hlen.trans (by kernel_rfl)
  have hx : xs.length = 8 := hsz
  obtain ⟨y0, r0, w0⟩ := open_field (m := 1) (i := 0) (off := 0) (opensR_int Try.underlying3) (by omega) (by kernel_rfl) (hf 0 _ rfl)
  obtain ⟨y1, r1, w1⟩ := open_field (m := 5) (i := 1) (off := 1) opens_142 (by omega) (by kernel_rfl) (hf 1 _ rfl)
  obtain ⟨y2, r2, w2⟩ := open_field (m := 5) (i := 2) (off := 6) opens_48 (by omega) (by kernel_rfl) (hf 2 _ rfl)
  obtain ⟨y3, r3, w3⟩ := open_field (m := 10) (i := 3) (off := 11) opens_50 (by omega) (by kernel_rfl) (hf 3 _ rfl)
  obtain ⟨y4, r4, w4⟩ := open_field (m := 11) (i := 4) (off := 21) opens_64 (by omega) (by kernel_rfl) (hf 4 _ rfl)
  obtain ⟨y5, r5, w5⟩ := open_field (m := 2) (i := 5) (off := 32) opens_26 (by omega) (by kernel_rfl) (hf 5 _ rfl)
  obtain ⟨y6, r6, w6⟩ := open_field (m := 6) (i := 6) (off := 34) opens_79 (by omega) (by kernel_rfl) (hf 6 _ rfl)
  obtain ⟨y7, r7, w7⟩ := open_field (m := 5) (i := 7) (off := 40) opens_40 (by omega) (by kernel_rfl) (hf 7 _ rfl)
  have := (rd_fields r0 (rd_fields r1 (rd_fields r2 (rd_fields r3 (rd_fields r4 (rd_fields r5 (rd_fields r6 (rd_fields r7 (rd_fields_nil (off := 45) (by omega))))))))))
  rw [List.drop_zero] at this
  exact ⟨⟨y0, y1, y2, y3, y4, y5, y6, y7⟩, this, w0, w1, w2, w3, w4, w5, w6, w7⟩
theorem opens_148 : OpensR Try.prog 148 SEvent.cells SEvent.ok := by
  intro H e w base spare held fuel cs x h
  obtain ⟨xs, n, _, _, hlen, hsz, hf⟩ := DataW.trod_struct Try.underlying148 h
  have hl : cs.length = 47 := hlen.trans (by kernel_rfl)
  have hx : xs.length = 3 := hsz
  obtain ⟨y0, r0, w0⟩ := open_field (m := 1) (i := 0) (off := 0) (opensR_int Try.underlying3) (by omega) (by kernel_rfl) (hf 0 _ rfl)
  obtain ⟨y1, r1, w1⟩ := open_field (m := 1) (i := 1) (off := 1) (opensR_int Try.underlying3) (by omega) (by kernel_rfl) (hf 1 _ rfl)
  obtain ⟨y2, r2, w2⟩ := open_field (m := 45) (i := 2) (off := 2) opens_146 (by omega) (by kernel_rfl) (hf 2 _ rfl)
  have := (rd_fields r0 (rd_fields r1 (rd_fields r2 (rd_fields_nil (off := 47) (by omega)))))
  rw [List.drop_zero] at this
  exact ⟨⟨y0, y1, y2⟩, this, w0, w1, w2⟩
end Go.Proofs.Ytniapflmmigbjaa.Rf
namespace Go.Proofs.Ytniapflmmigbjaa.fnExactSkipped
open Go.ChangeShapes Go.WideShapes Go.ChangeAt Go.RowKit Go.Proofs.Ytniapflmmigbjaa.Rf
open Go.ChangeMaps (open_string shut_string)
set_option linter.unusedVariables false
set_option linter.unusedSimpArgs false
theorem own : ownKnob Try.prog.godebug = none := by kernel_rfl
theorem laidOut : laidOutB Try.prog = true := by kernel_rfl
set_option maxRecDepth 100000 in
theorem lifted (os : Os) (started : os.Started) (H : Type) (enc : TypeId × Value → H) :
    ReturnsInHanded {} Try.checked os 14 .any (Rows.fnExactSkippedSpec.pre6 enc Try.prog Try.f14 Rows.fnExactSkippedRow.domain false) (Rows.fnExactSkippedSpec.post enc Try.prog Try.f14 false true false false) := by
  refine returnsInHanded_of_change_sized (C := Try.checked) own started (by kernel_rfl) Try.func14
    (ChangeSpec.witness6 (enc := enc) (C := Try.checked) false ⟨#[], #[.slice none 0 0], []⟩ 8 (by kernel_rfl) (by kernel_rfl) (by kernel_rfl) (by kernel_rfl)) ?_
  intro W base args ds gs before hval0 hW hcnd hsz0 _
  have hval : ∀ (j : Nat) t v, Try.f14.params[j]? = some t → args[j]? = some v → Value.okWide Try.prog W .any base t v := hval0
  have hW' := hW
  obtain ⟨p, q, hA0, hV, rfl, hfz, hnd⟩ := hW
  have hA : DataW.TrodAll enc Try.prog W 0 (fun _ => true) true Try.f14.params.toList args.toList ds p := hA0
  rw [Try.params14] at hA hval
  obtain ⟨v0, vs0, d0, ds0, p0, q0, hargs, rfl, rfl, h0, r0⟩ := trodAll_cons hA
  obtain ⟨rfl, rfl, rfl⟩ := trodAll_nil r0
  obtain rfl : args = #[v0] := by cases args; simp_all
  obtain ⟨rfl, rfl⟩ := trodVars_none hV
  have lt0 : ∀ x ∈ p0, x.block < W.heap.size := by obtain ⟨m, hm⟩ := h0; exact DataW.trod_lt m _ _ _ hm
  obtain ⟨e0, n0, c0, rfl⟩ := okWide_slice Try.underlying102 (hval 0 102 v0 rfl rfl)
  have k0 := h0
  obtain ⟨fuel0, hf0⟩ := h0
  obtain ⟨y0, rr0, o0⟩ := (opensR_sl Try.underlying102 (by kernel_rfl) (lt_ok rfl) SEvent.len opens_148) enc W _ _ _ fuel0 _ _ hf0
  clear hA0 hval0 hsz0
  refine (ok_laws_FnExactSkipped y0 o0 W (fun k => k < W.heap.size) [_] (fun _ h => h) (.cons (show AOk' _ _ _ (.one _) from rr0) .nil)).mono fun e W' hr => ?_
  obtain ⟨he, bel⟩ := ret_true hr
  subst he
  exact ⟨_, rfl, _, _, _, [], _, [], hW', trodAll_mk1 (shut_bool Try.underlying4 _), (trodAll_cons_mk (Below.trod laidOut (by kernel_rfl) (of_decide_eq_true (by kernel_rfl)) k0 bel lt0) trodAll_mk0), rfl, bel.frame _, fun h => by cases h⟩
theorem over : Rows.fnExactSkippedRow.holds Try.pinned (OpenSpec.ofChange Rows.fnExactSkippedSpec) :=
  OpenClaim.holds_of_wide 14 Try.f14 rfl rfl rfl rfl rfl rfl rfl ⟨rfl, rfl, rfl, rfl, rfl⟩ rfl rfl rfl rfl rfl (by kernel_rfl) Try.func14 (by kernel_rfl)
    (of_decide_eq_true (by kernel_rfl)) (by unfold Func.isWrapper; first | (rw [if_pos (by decide +kernel)]; kernel_rfl) | (rw [if_neg (by decide +kernel)]; exact ⟨rfl, rfl⟩))
    (fun os started H enc _ => lifted os started H enc)
theorem proved : Rows.FnExactSkippedSaid := over
#print axioms proved
end Go.Proofs.Ytniapflmmigbjaa.fnExactSkipped
namespace Go.Proofs.Ytniapflmmigbjaa
/-- The row, under a short name, for the claim. -/
theorem fnExactSkipped_holds : Rows.FnExactSkippedSaid := fnExactSkipped.proved
end Go.Proofs.Ytniapflmmigbjaa
