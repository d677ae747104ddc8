/- The law FnExactLimitsText holds: for every input its call returns true, and each argument reads behind the call as it read before. No condition beside the given row's own. -/
import Derived.Test.YtppldhkkhadngaaDoorTie
import Derived.Test.YtppldhkkhadngaaDoorCards
import Derived.ProofKit
import Derived.LaidMore
import Derived.OpenShut
import Derived.Stop.Joined
import Derived.Lib.LaidTab
import Derived.SevenTiedAt
import Derived.Test.YtppldhkkhadngaaDoorRFnExactLimitsTextx0
namespace Go.Proofs.YtppldhkkhadngaaDoor.Rf
open Go.RowKit Go.ChangeShapes Go.WideShapes Go.ChangeAt
set_option linter.unusedVariables false
theorem opens_23 : OpensR Tryd.prog 23 SLimits.cells SLimits.ok := by
  intro H e w base spare held fuel cs x h
  obtain ⟨xs, n, _, _, hlen, hsz, hf⟩ := DataW.trod_struct Tryd.underlying23 h
  have hl : cs.length = 5 := hlen.trans (by kernel_rfl)
  have hx : xs.length = 5 := hsz
  obtain ⟨y0, r0, w0⟩ := open_field (m := 1) (i := 0) (off := 0) (opensR_int Tryd.underlying3) (by omega) (by kernel_rfl) (hf 0 _ rfl)
  obtain ⟨y1, r1, w1⟩ := open_field (m := 1) (i := 1) (off := 1) (opensR_int Tryd.underlying3) (by omega) (by kernel_rfl) (hf 1 _ rfl)
  obtain ⟨y2, r2, w2⟩ := open_field (m := 1) (i := 2) (off := 2) (opensR_int Tryd.underlying3) (by omega) (by kernel_rfl) (hf 2 _ rfl)
  obtain ⟨y3, r3, w3⟩ := open_field (m := 1) (i := 3) (off := 3) (opensR_int Tryd.underlying3) (by omega) (by kernel_rfl) (hf 3 _ rfl)
  obtain ⟨y4, r4, w4⟩ := open_field (m := 1) (i := 4) (off := 4) (opensR_int Tryd.underlying3) (by omega) (by kernel_rfl) (hf 4 _ rfl)
  have := (rd_fields r0 (rd_fields r1 (rd_fields r2 (rd_fields r3 (rd_fields r4 (rd_fields_nil (off := 5) (by omega)))))))
  rw [List.drop_zero] at this
  exact ⟨⟨y0, y1, y2, y3, y4⟩, this, w0, w1, w2, w3, w4⟩
end Go.Proofs.YtppldhkkhadngaaDoor.Rf
namespace Go.Proofs.YtppldhkkhadngaaDoor.fnExactLimitsText
open Go.ChangeShapes Go.WideShapes Go.ChangeAt Go.RowKit Go.Proofs.YtppldhkkhadngaaDoor.Rf
open Go.ChangeMaps (open_string shut_string)
set_option linter.unusedVariables false
set_option linter.unusedSimpArgs false
theorem own : ownKnob Tryd.prog.godebug = none := by kernel_rfl
theorem laidOut : laidOutB Tryd.prog = true := by kernel_rfl
theorem door_met (os : Os) (args : Array Value) : laidMetH Tryd.prog Rows.fnExactLimitsTextRow.laid ((World.doorLaid Tryd.prog 400 os).forCall (fun _ _ => 0) ⟨#[], args, []⟩).memory :=
  laidMetH_of_parts3 (fuel := 8) (laidMet_of_run' 8 (by kernel_rfl) (by kernel_rfl)) (by kernel_rfl) (by kernel_rfl)
theorem tabEq : (Rows.laid_internal_strconv_uint64pow10 : DataW Unit) = Lib.tabData .u64 Lib.pow10Tab := by kernel_rfl
theorem of_laid {W : World} (h : laidMetH Tryd.prog Rows.fnExactLimitsTextRow.laid W) : Vtab_ W := by
  rw [MakeChecks.laidMetH_plain _ _ _ (by kernel_rfl)] at h
  obtain ⟨ps, ⟨_, _, _, _, _, _, _, _, _, _, ⟨_, _, _, _, _, _, _, _, _, _, ⟨g, t, cs, fuel, p, q, hg, ht, hv, hd, _, _⟩, _⟩, _⟩, _⟩ := h
  obtain rfl := Option.some.inj ((show Tryd.prog.globalNamed "internal/strconv.uint64pow10" = some 3 by kernel_rfl).symm.trans hg)
  obtain rfl := Option.some.inj ((show (Tryd.prog.globals[3]?).map (·.type) = some 81 by kernel_rfl).symm.trans ht)
  unfold Vtab_ Lib.TabIs
  rw [hv]
  rw [show (Rows.laid_internal_strconv_uint64pow10 : DataW Unit) = Lib.tabData .u64 Lib.pow10Tab from tabEq] at hd
  rw [← Lib.cells_of_tab Tryd.underlying81 Tryd.underlying67 (by kernel_rfl) (by kernel_rfl) hd]
set_option maxRecDepth 100000 in
theorem lifted (os : Os) (started : os.Started) (H : Type) (enc : TypeId × Value → H) :
    ReturnsInHanded {} Tryd.checked os 3 .any (fun w args => (Rows.fnExactLimitsTextSpec.pre enc Tryd.prog Tryd.f3 [] false w args ∧ laidMetH Tryd.prog Rows.fnExactLimitsTextRow.laid w) ∧ sizedMet enc Tryd.prog Tryd.f3 (OpenSpec.ofChange Rows.fnExactLimitsTextSpec) false w args) (Rows.fnExactLimitsTextSpec.post enc Tryd.prog Tryd.f3 false true false false) := by
  refine returnsInHanded_of_change_and (C := Tryd.checked) (X := fun w _ => laidMetH Tryd.prog Rows.fnExactLimitsTextRow.laid w) (fun _ _ _ hh h => h.of_heap hh) own started (by kernel_rfl) Tryd.func3
    (ChangeSpec.witness_shaped (enc := enc) (C := Tryd.checked) (os := os) (X := fun w _ => laidMetH Tryd.prog Rows.fnExactLimitsTextRow.laid w) false (World.doorLaid Tryd.prog 400 os) #[.agg #[.int .i64 0, .int .i64 0, .int .i64 0, .int .i64 0, .int .i64 0]] 8 rfl (World.shaped_of_RefB (by kernel_rfl) (by kernel_rfl)) (by kernel_rfl) (by kernel_rfl) (by kernel_rfl) (door_met os _)) ?_
  intro W base args ds gs before hval0 hW hcnd hsz0 hL _
  have hval : ∀ (j : Nat) t v, Tryd.f3.params[j]? = some t → args[j]? = some v → Value.okWide Tryd.prog W .any base t v := hval0
  have hW' := hW
  obtain ⟨p, q, hA0, hV, rfl, hfz, hnd⟩ := hW
  have hA : DataW.TrodAll enc Tryd.prog W 0 (fun _ => true) true Tryd.f3.params.toList args.toList ds p := hA0
  rw [Tryd.params3] at hA hval
  obtain ⟨v0, vs0, d0, ds0, p0, q0, hargs, rfl, rfl, h0, r0⟩ := trodAll_cons hA
  obtain ⟨rfl, rfl, rfl⟩ := trodAll_nil r0
  obtain rfl : args = #[v0] := by cases args; simp_all
  obtain ⟨rfl, rfl⟩ := trodVars_none hV
  have lt0 : ∀ x ∈ p0, x.block < W.heap.size := by obtain ⟨m, hm⟩ := h0; exact DataW.trod_lt m _ _ _ hm
  obtain ⟨cs0, rfl, _⟩ := okWide_struct Tryd.underlying23 (hval 0 23 v0 rfl rfl)
  have k0 := h0
  obtain ⟨fuel0, hf0⟩ := h0
  obtain ⟨y0, rr0, o0⟩ := opens_23 enc W _ _ _ fuel0 _ _ hf0
  have hV_ := of_laid hL
  clear hA0 hval0 hsz0
  refine (ok_laws_FnExactLimitsText y0 o0 W hV_ (fun k => k < W.heap.size) [_] (fun _ h => h) (.cons (show AOk' _ _ _ (.agg _) from ⟨_, rfl, rr0⟩) .nil)).mono fun e W' hr => ?_
  obtain ⟨he, bel⟩ := ret_true hr
  subst he
  exact ⟨_, rfl, _, _, _, [], _, [], hW', trodAll_mk1 (shut_bool Tryd.underlying4 _), (trodAll_cons_mk (Below.trod laidOut (by kernel_rfl) (of_decide_eq_true (by kernel_rfl)) k0 bel lt0) trodAll_mk0), rfl, bel.frame _, fun h => by cases h⟩
theorem over : Rows.fnExactLimitsTextRow.holds Tryd.pinned (OpenSpec.ofChange Rows.fnExactLimitsTextSpec) :=
  OpenClaim.holds_of_wide 3 Tryd.f3 rfl rfl rfl rfl rfl rfl rfl ⟨rfl, rfl, rfl, rfl, rfl⟩ rfl rfl rfl rfl rfl (by kernel_rfl) Tryd.func3 (by kernel_rfl)
    (of_decide_eq_true (by kernel_rfl)) (by unfold Func.isWrapper; first | (rw [if_pos (by decide +kernel)]; kernel_rfl) | (rw [if_neg (by decide +kernel)]; exact ⟨rfl, rfl⟩))
    (fun os started H enc _ => lifted os started H enc)
theorem card_holds : Rows.FnExactLimitsTextCardSaid :=
  Claim7.holds_tied_plain_at .later [] Rows.fnExactLimitsTextCard.laidKinds true Rows.fnExactLimitsTextCard.stood.harness true
    over (fun _ h => by cases h) (by kernel_rfl) (fun _ h => by cases h) fnExactLimitsText_row_tie rfl ⟨rfl, rfl⟩ (by kernel_rfl) rfl
    (fun f fn hf hfn => by
      obtain rfl : f = 3 := Option.some.inj ((show Tryd.prog.funcNamed "loop.example/g00790/laws.FnExactLimitsText" = some 3 by kernel_rfl).symm.trans hf) |>.symm
      obtain rfl : fn = Tryd.f3 := (Option.some.inj (Tryd.func3.symm.trans hfn)).symm
      exact ⟨by kernel_rfl, fun j t ht => by
        rw [Tryd.params3] at ht
        have h3 : t = 23 := by
          rcases j with _ | j
          · simpa using ht.symm
          · simp at ht
        subst h3
        exact (show Tryd.prog.wantsStandIn 23 = false by kernel_rfl)⟩)
    (by kernel_rfl)
theorem proved : Rows.FnExactLimitsTextCardSaid := card_holds
#print axioms proved
end Go.Proofs.YtppldhkkhadngaaDoor.fnExactLimitsText
namespace Go.Proofs.YtppldhkkhadngaaDoor
/-- The row, under a short name, for the claim. -/
theorem fnExactLimitsText_holds : Rows.FnExactLimitsTextCardSaid := fnExactLimitsText.proved
end Go.Proofs.YtppldhkkhadngaaDoor
