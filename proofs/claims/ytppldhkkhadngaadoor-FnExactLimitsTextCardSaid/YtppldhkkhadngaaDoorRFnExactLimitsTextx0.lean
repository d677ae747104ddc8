/- The functions that FnExactLimitsText calls, each held to what it answers. Printed by a program of this session; Lean checks it. -/
import Derived.Test.YtppldhkkhadngaaDoorProg
import Derived.Test.YtppldhkkhadngaaDoorTrFnExactLimitsTexta
import Derived.Shelf.LaysM
import Derived.Shelf.Strconv.Itoa3
import Derived.Lib.ItoaLen
import Derived.Lib.AppendIntMem
namespace Go.Proofs.YtppldhkkhadngaaDoor.Rf
open Go.RowKit
set_option linter.unusedVariables false
set_option linter.unnecessarySimpa false
set_option linter.unusedSimpArgs false
set_option maxRecDepth 100000
set_option maxHeartbeats 800000
@[ext] structure SLimits where
  f0 : Int
  f1 : Int
  f2 : Int
  f3 : Int
  f4 : Int
  deriving Inhabited, DecidableEq
def SLimits.cells (x : SLimits) : List D := [(.int .i64 x.f0), (.int .i64 x.f1), (.int .i64 x.f2), (.int .i64 x.f3), (.int .i64 x.f4)]
def SLimits.ok (x : SLimits) : Prop := (I64 x.f0) ∧ (I64 x.f1) ∧ (I64 x.f2) ∧ (I64 x.f3) ∧ (I64 x.f4)
def limOk (l : SLimits) : Bool := decide (1 ≤ l.f0 ∧ l.f0 ≤ 10) && decide (0 ≤ l.f1 ∧ l.f1 ≤ 40) && decide (0 ≤ l.f2 ∧ l.f2 ≤ 8) && decide (1 ≤ l.f3 ∧ l.f3 ≤ 4000) && decide (3 ≤ l.f4 ∧ l.f4 ≤ 5)
def digB (n : Int) : ByteArray := ⟨(Lib.decDigits n.toNat).toArray⟩
def numText (n : Int) : ByteArray := if decide (0 ≤ n ∧ n ≤ 1152921504606846975) = true then digB n else ByteArray.empty
theorem numText_in {n : Int} (h : 0 ≤ n ∧ n ≤ 1152921504606846975) : numText n = digB n := if_pos (decide_eq_true h)
theorem digB_itoa {n : Int} (h : 0 ≤ n) : (⟨(Lib.itoa n).toArray⟩ : ByteArray) = digB n := by
  have e : ((n.toNat : Nat) : Int) = n := by omega
  rw [digB, ← Lib.itoa_nonneg, e]
theorem strOfNums_one (x : Int) : strOfNums [x] = ⟨#[UInt8.ofNat x.toNat]⟩ := rfl
theorem digB_one {m : Int} (h0 : 0 ≤ m) (h : m < 10) (x : Int) (hx : x = 48 + m) : strOfNums [x] = digB m := by
  subst hx
  rw [digB, Lib.decDigits_one (by omega), strOfNums_one]
  have : (48 + m).toNat = 48 + m.toNat := by omega
  rw [this]
theorem digB_next {m : Int} (h : 9 < m) (x : Int) (hx : x = 48 + m % 10) (s : ByteArray) : digB (m / 10) ++ (strOfNums [x] ++ s) = digB m ++ s := by
  subst hx
  rw [← ByteArray.append_assoc]
  congr 1
  have e1 : (m / 10).toNat = m.toNat / 10 := by omega
  have e2 : (48 + m % 10).toNat = 48 + m.toNat % 10 := by omega
  rw [digB, digB, e1, strOfNums_one, e2]
  rw [show Lib.decDigits m.toNat = Lib.decDigits (m.toNat / 10) ++ [UInt8.ofNat (48 + m.toNat % 10)] from by rw [Lib.decDigits, dif_neg (by omega)]]
  apply ByteArray.ext
  simp
theorem digB_size {m : Int} (h : m ≤ 1152921504606846975) : (digB m).size ≤ 20 := by
  show (Lib.decDigits m.toNat).toArray.size ≤ 20
  rw [List.size_toArray, Lib.decDigits_length]
  exact Lib.nDigits_le20 _ (by omega)
theorem numText_size (n : Int) : (numText n).size ≤ 20 := by
  unfold numText
  split
  · rename_i h; exact digB_size (of_decide_eq_true h).2
  · show ByteArray.empty.size ≤ 20; rw [ByteArray.size_empty]; omega
def limTxt0 : ByteArray := ⟨#[108, 105, 109, 105, 116, 115]⟩
def addNums : ByteArray → List Int → ByteArray
  | s, [] => s
  | s, n :: ns => addNums (s ++ ⟨#[32]⟩ ++ numText n) ns
theorem addNums_drop (s : ByteArray) (l : List Int) (i : Nat) (h : i < l.length) : addNums s (l.drop i) = addNums (s ++ ⟨#[32]⟩ ++ numText (l.getD i 0)) (l.drop (i + 1)) := by
  have e : l.getD i 0 = l[i] := by simp [h]
  rw [List.drop_eq_getElem_cons h, e]; rfl
def limText (l : SLimits) : ByteArray := if limOk l = true then addNums limTxt0 [l.f0, l.f1, l.f2, l.f3, l.f4] else ByteArray.empty
def Vtab_ (w : World) : Prop := Lib.TabIs Tryd.prog w "internal/strconv.uint64pow10" .u64 Lib.pow10Tab
theorem hkept_ : Kept_ Vtab_ := by
  intro w w' h hk
  unfold Vtab_ Lib.TabIs World.var? at *
  cases hg : Program.globalNamed Tryd.prog "internal/strconv.uint64pow10" with
  | none => rw [hg] at h; exact absurd h (by simp)
  | some g =>
    rw [hg] at h
    simp only [Option.bind_some] at h ⊢
    rw [hk g (by
      by_cases hlt : g < w.heap.size
      · exact hlt
      · rw [Array.getElem?_eq_none (by omega)] at h; exact absurd h (by simp))]
    exact h
open Go.Lib in
def ex_laysM171_ren : Go.Shelf.Ren := ⟨fun | 171 => 34 | 243 => 37 | 246 => 43 | 283 => 53 | 284 => 54 | 285 => 55 | 286 => 56 | 129 => 66 | 317 => 65 | 318 => 67 | 319 => 68 | 320 => 69 | 337 => 74 | 338 => 75 | n => n, fun | 3 => 3 | 9 => 9 | 2 => 2 | 4 => 4 | 171 => 66 | 0 => 0 | 53 => 67 | 37 => 46 | 5 => 5 | 173 => 70 | 212 => 81 | 51 => 82 | 20 => 20 | 213 => 83 | 46 => 73 | 232 => 97 | 233 => 98 | n => n, fun | 17 => 3 | 18 => 6 | 19 => 7 | n => n⟩
theorem ex_laysM171 : Go.Proofs.LaysM.n171 Tryd.prog ex_laysM171_ren := {
  mixed := by kernel_rfl
  f129 := Tryd.func66.trans (congrArg some (by kernel_rfl))
  f171 := Tryd.func34.trans (congrArg some (by kernel_rfl))
  f243 := Tryd.func37.trans (congrArg some (by kernel_rfl))
  f246 := Tryd.func43.trans (congrArg some (by kernel_rfl))
  f283 := Tryd.func53.trans (congrArg some (by kernel_rfl))
  f284 := Tryd.func54.trans (congrArg some (by kernel_rfl))
  f285 := Tryd.func55.trans (congrArg some (by kernel_rfl))
  f286 := Tryd.func56.trans (congrArg some (by kernel_rfl))
  f317 := Tryd.func65.trans (congrArg some (by kernel_rfl))
  f318 := Tryd.func67.trans (congrArg some (by kernel_rfl))
  f319 := Tryd.func68.trans (congrArg some (by kernel_rfl))
  f320 := Tryd.func69.trans (congrArg some (by kernel_rfl))
  f337 := Tryd.func74.trans (congrArg some (by kernel_rfl))
  f338 := Tryd.func75.trans (congrArg some (by kernel_rfl))
  t0 := Tryd.underlying0
  a0 := Tryd.isAgg0
  z0 := Tryd.sizeOf0
  v0 := Tryd.zeroValue0
  t2 := Tryd.underlying2
  a2 := Tryd.isAgg2
  z2 := Tryd.sizeOf2
  v2 := Tryd.zeroValue2
  t3 := Tryd.underlying3
  a3 := Tryd.isAgg3
  z3 := Tryd.sizeOf3
  v3 := Tryd.zeroValue3
  t4 := Tryd.underlying4
  a4 := Tryd.isAgg4
  z4 := Tryd.sizeOf4
  v4 := Tryd.zeroValue4
  t5 := Tryd.underlying5
  a5 := Tryd.isAgg5
  z5 := Tryd.sizeOf5
  v5 := Tryd.zeroValue5
  t9 := Tryd.underlying9
  a9 := Tryd.isAgg9
  z9 := Tryd.sizeOf9
  v9 := Tryd.zeroValue9
  t20 := Tryd.underlying20
  a20 := Tryd.isAgg20
  z20 := Tryd.sizeOf20
  v20 := Tryd.zeroValue20
  t37 := Tryd.underlying46
  a37 := Tryd.isAgg46
  z37 := Tryd.sizeOf46
  v37 := Tryd.zeroValue46
  t46 := Tryd.underlying73
  a46 := Tryd.isAgg73
  z46 := Tryd.sizeOf73
  v46 := Tryd.zeroValue73
  t51 := Tryd.underlying82
  a51 := Tryd.isAgg82
  z51 := Tryd.sizeOf82
  v51 := Tryd.zeroValue82
  t53 := Tryd.underlying67
  a53 := Tryd.isAgg67
  z53 := Tryd.sizeOf67
  v53 := Tryd.zeroValue67
  t171 := Tryd.underlying66
  a171 := Tryd.isAgg66
  z171 := Tryd.sizeOf66
  v171 := Tryd.zeroValue66
  t173 := Tryd.underlying70
  a173 := Tryd.isAgg70
  z173 := Tryd.sizeOf70
  v173 := Tryd.zeroValue70
  t212 := Tryd.underlying81
  a212 := Tryd.isAgg81
  z212 := Tryd.sizeOf81
  v212 := Tryd.zeroValue81
  t213 := Tryd.underlying83
  a213 := Tryd.isAgg83
  z213 := Tryd.sizeOf83
  t232 := Tryd.underlying97
  a232 := Tryd.isAgg97
  z232 := Tryd.sizeOf97
  v232 := Tryd.zeroValue97
  t233 := Tryd.underlying98
  a233 := Tryd.isAgg98
  z233 := Tryd.sizeOf98
  v233 := Tryd.zeroValue98
  g17 := by kernel_rfl
  g18 := by kernel_rfl
  g19 := by kernel_rfl
  i0 := by kernel_rfl
  i2 := by kernel_rfl
  i3 := by kernel_rfl
  i4 := by kernel_rfl
  i5 := by kernel_rfl
  i9 := by kernel_rfl
  i20 := by kernel_rfl
  i37 := by kernel_rfl
  i46 := by kernel_rfl
  i51 := by kernel_rfl
  i53 := by kernel_rfl
  i171 := by kernel_rfl
  i173 := by kernel_rfl
  i212 := by kernel_rfl
  i232 := by kernel_rfl
  i233 := by kernel_rfl
  m17 := by kernel_rfl
  m18 := by kernel_rfl
  m19 := by kernel_rfl }
open Go.RowKit Go.Sort Go.Lib in
theorem ex_strconv_Itoa (n : Int) (h0 : -9223372036854775808 ≤ n) (h1 : n ≤ 9223372036854775807) (w : World) (htab : Lib.TabIs Tryd.prog w "internal/strconv.uint64pow10" .u64 Lib.pow10Tab) :
    Calls Tryd.prog 34 #[.int .i64 n] w fun e w' => e = .returned (.string ⟨(Lib.itoa n).toArray⟩) ∧ ∃ k os, w' = grow (w.drewN k) os := Any.strconv_Itoa ex_laysM171 n h0 h1 w htab
theorem ok_strconv_Itoa (n : Int) (h0_ : I64 n) (w : World) (hv_ : Vtab_ w) : ROw Tryd.prog 34 [.one (.int .i64 n)] [(false, [.rd (.str ⟨(Lib.itoa n).toArray⟩)])] w := by
  intro Z vals hz ha
  obtain ⟨v, rfl, hv⟩ : ∃ v, vals = [v] ∧ AOk' w Z v (.one (.int .i64 n)) := by
    cases ha with
    | cons h1 h2 => cases h2; exact ⟨_, rfl, h1⟩
  have e : v = .int .i64 n := by
    cases hv with
    | val h1 h2 => injection h1 with h1; exact h1.symm
    | sl h1 _ _ _ _ _ _ _ => cases h1
  subst e
  refine (ex_strconv_Itoa n h0_.1 h0_.2 w hv_).mono fun e w' hr => ?_
  obtain ⟨he, k, os, hw⟩ := hr
  subst he; subst hw
  exact ⟨Lib.below_grow _ w (Nat.le_refl _) k os, [.string _], [(false, [.string _])], fun _ => .none, rfl, fun _ h => (h rfl).elim, .cons rfl .nil, rfl, Rd.val rfl .nil, trivial⟩
theorem ok_spec_l01In (n : Int) (lo : Int) (hi : Int) : RO Tryd.prog 30 [.one (.int .i64 n), .one (.int .i64 lo), .one (.int .i64 hi)] [(false, [.rd (.bool (decide (lo ≤ n ∧ n ≤ hi)))])] := by
 refine RO.intro Tryd.func30 rfl 15 rfl (le_ok rfl) fun w Z => ?_
 refine T.seq ?_
 refine T.region ?_
 refine TL.as (pB false) ?_
 refine TL.nil ?_
 refine T.seq ?_
 refine T.region ?_
 refine TL.mv (pI n) ?_
 refine TL.mv (pI lo) ?_
 refine TL.b _ (Bin.geq (k := .i64) (a := n) (b := lo)) ?_
 refine TL.mv (pB (decide (lo ≤ n))) ?_
 rcases Bool.eq_false_or_eq_true (decide (lo ≤ n)) with hb1 | hb1
 ·
  refine TL.known 10 hb1 rfl ?_
  refine TL.gm 10 (pI n) ?_
  refine TL.gm 10 (pI hi) ?_
  refine TL.gy 10 (Step.bin rfl rfl (lt_ok rfl) rfl rfl (Bin.leq (k := .i64) (a := n) (b := hi))) ?_
  refine TL.pk true (pB (decide (n ≤ hi))) ?_
  refine TL.as (pB (decide (n ≤ hi))) ?_
  refine TL.nil ?_
  refine T.ret ?_
  refine ⟨[(false, [.d (.bool (decide (n ≤ hi)))])], (.cons rfl .nil), rfl, [], (RetC.r ?_ .nil)⟩ <;> (first | (congr 1; simp_all; done) | (congr 1; simp_all; omega))
 refine TL.known 10 hb1 rfl ?_
 refine TL.gf 10 ?_
 refine TL.gf 10 ?_
 refine TL.gf 10 ?_
 refine TL.pk false (pB false) ?_
 refine TL.as (pB false) ?_
 refine TL.nil ?_
 refine T.ret ?_
 refine ⟨[(false, [.d (.bool false)])], (.cons rfl .nil), rfl, [], (RetC.r ?_ .nil)⟩ <;> (first | (congr 1; simp_all; done) | (congr 1; simp_all; omega))
theorem ok_spec_l02Signers (n : Int) : RO Tryd.prog 29 [.one (.int .i64 n)] [(false, [.rd (.bool (decide (1 ≤ n ∧ n ≤ 10)))])] := by
 refine RO.intro Tryd.func29 rfl 5 rfl (le_ok rfl) fun w Z => ?_
 refine T.seq ?_
 refine T.region ?_
 refine TL.as (pB false) ?_
 refine TL.nil ?_
 refine T.seq ?_
 refine T.region ?_
 refine TL.mv (pI n) ?_
 refine TL.c (Step.cl (xs := [.tmp 3, .const (.int .i64 1), .const (.int .i64 10)]) (ps := [(pI n), (pI 1), (pI 10)]) (g := .func 30) false (.cons (.one (.d _)) (.cons (.one (.d _)) (.cons (.one (.d _)) .nil))) (ok_spec_l01In n 1 10)) ?_
 refine TL.as (pB (decide (1 ≤ n ∧ n ≤ 10))) ?_
 refine TL.nil ?_
 refine T.ret ?_
 exact ⟨[(false, [.d (.bool (decide (1 ≤ n ∧ n ≤ 10)))])], (.cons rfl .nil), rfl, [], (RetC.rd' rfl .nil)⟩
theorem ok_spec_LimitsOk (l : SLimits) : RO Tryd.prog 20 [.agg l.cells] [(false, [.rd (.bool (limOk l))])] := by
 refine RO.intro Tryd.func20 rfl 26 rfl (le_ok rfl) fun w Z => ?_
 refine T.seq ?_
 refine T.region ?_
 refine TL.c (Step.bx [cI l.f0, cI l.f1, cI l.f2, cI l.f3, cI l.f4]) ?_
 refine TL.as (pB false) ?_
 refine TL.nil ?_
 refine T.seq ?_
 refine T.region ?_
 refine TL.c (Step.fd 0 1 true) ?_
 refine TL.c (Step.lb (.d (.int .i64 l.f0))) ?_
 refine TL.c (Step.cl (xs := [.tmp 4]) (ps := [(pI l.f0)]) (g := .func 29) false (.cons (.one (.d _)) .nil) (ok_spec_l02Signers l.f0)) ?_
 refine TL.mv (pB (decide (1 ≤ l.f0 ∧ l.f0 ≤ 10))) ?_
 rcases Bool.eq_false_or_eq_true (decide (1 ≤ l.f0 ∧ l.f0 ≤ 10)) with hb1 | hb1
 ·
  refine TL.known 6 hb1 rfl ?_
  refine TL.gy 6 (Step.fd 1 1 true) ?_
  refine TL.gy 6 (Step.lb (.d (.int .i64 l.f1))) ?_
  refine TL.gy 6 (Step.cl (xs := [.tmp 8, .const (.int .i64 0), .const (.int .i64 40)]) (ps := [(pI l.f1), (pI 0), (pI 40)]) (g := .func 30) false (.cons (.one (.d _)) (.cons (.one (.d _)) (.cons (.one (.d _)) .nil))) (ok_spec_l01In l.f1 0 40)) ?_
  refine TL.pk true (pB (decide (0 ≤ l.f1 ∧ l.f1 ≤ 40))) ?_
  refine TL.mv (pB (decide (0 ≤ l.f1 ∧ l.f1 ≤ 40))) ?_
  rcases Bool.eq_false_or_eq_true (decide (0 ≤ l.f1 ∧ l.f1 ≤ 40)) with hb2 | hb2
  ·
   refine TL.known 11 hb2 rfl ?_
   refine TL.gy 11 (Step.fd 2 1 true) ?_
   refine TL.gy 11 (Step.lb (.d (.int .i64 l.f2))) ?_
   refine TL.gy 11 (Step.cl (xs := [.tmp 13, .const (.int .i64 0), .const (.int .i64 8)]) (ps := [(pI l.f2), (pI 0), (pI 8)]) (g := .func 30) false (.cons (.one (.d _)) (.cons (.one (.d _)) (.cons (.one (.d _)) .nil))) (ok_spec_l01In l.f2 0 8)) ?_
   refine TL.pk true (pB (decide (0 ≤ l.f2 ∧ l.f2 ≤ 8))) ?_
   refine TL.mv (pB (decide (0 ≤ l.f2 ∧ l.f2 ≤ 8))) ?_
   rcases Bool.eq_false_or_eq_true (decide (0 ≤ l.f2 ∧ l.f2 ≤ 8)) with hb3 | hb3
   ·
    refine TL.known 16 hb3 rfl ?_
    refine TL.gy 16 (Step.fd 3 1 true) ?_
    refine TL.gy 16 (Step.lb (.d (.int .i64 l.f3))) ?_
    refine TL.gy 16 (Step.cl (xs := [.tmp 18, .const (.int .i64 1), .const (.int .i64 4000)]) (ps := [(pI l.f3), (pI 1), (pI 4000)]) (g := .func 30) false (.cons (.one (.d _)) (.cons (.one (.d _)) (.cons (.one (.d _)) .nil))) (ok_spec_l01In l.f3 1 4000)) ?_
    refine TL.pk true (pB (decide (1 ≤ l.f3 ∧ l.f3 ≤ 4000))) ?_
    refine TL.mv (pB (decide (1 ≤ l.f3 ∧ l.f3 ≤ 4000))) ?_
    rcases Bool.eq_false_or_eq_true (decide (1 ≤ l.f3 ∧ l.f3 ≤ 4000)) with hb4 | hb4
    ·
     refine TL.known 21 hb4 rfl ?_
     refine TL.gy 21 (Step.fd 4 1 true) ?_
     refine TL.gy 21 (Step.lb (.d (.int .i64 l.f4))) ?_
     refine TL.gy 21 (Step.cl (xs := [.tmp 23, .const (.int .i64 3), .const (.int .i64 5)]) (ps := [(pI l.f4), (pI 3), (pI 5)]) (g := .func 30) false (.cons (.one (.d _)) (.cons (.one (.d _)) (.cons (.one (.d _)) .nil))) (ok_spec_l01In l.f4 3 5)) ?_
     refine TL.pk true (pB (decide (3 ≤ l.f4 ∧ l.f4 ≤ 5))) ?_
     refine TL.as (pB (decide (3 ≤ l.f4 ∧ l.f4 ≤ 5))) ?_
     refine TL.nil ?_
     refine T.ret ?_
     refine ⟨[(false, [.d (.bool (decide (3 ≤ l.f4 ∧ l.f4 ≤ 5)))])], (.cons rfl .nil), rfl, [], (RetC.r ?_ .nil)⟩ <;> (first | rfl | (congr 1; symm; simp only [limOk, *, Bool.and_true, Bool.true_and, Bool.and_false, Bool.false_and, decide_true, decide_false, and_true, true_and, and_self, and_false, false_and, Bool.and_self, not_true, not_false, Bool.not_true, Bool.not_false, ge_iff_le, gt_iff_lt, if_true, if_false, Bool.false_eq_true, ite_true, ite_false, reduceIte]; done) | (congr 1; symm; simp_all [limOk]; done) | (congr 1; symm; simp_all [limOk]; omega))
    refine TL.known 21 hb4 rfl ?_
    refine TL.gf 21 ?_
    refine TL.gf 21 ?_
    refine TL.gf 21 ?_
    refine TL.pk false (pB false) ?_
    refine TL.as (pB false) ?_
    refine TL.nil ?_
    refine T.ret ?_
    refine ⟨[(false, [.d (.bool false)])], (.cons rfl .nil), rfl, [], (RetC.r ?_ .nil)⟩ <;> (first | rfl | (congr 1; symm; simp only [limOk, *, Bool.and_true, Bool.true_and, Bool.and_false, Bool.false_and, decide_true, decide_false, and_true, true_and, and_self, and_false, false_and, Bool.and_self, not_true, not_false, Bool.not_true, Bool.not_false, ge_iff_le, gt_iff_lt, if_true, if_false, Bool.false_eq_true, ite_true, ite_false, reduceIte]; done) | (congr 1; symm; simp_all [limOk]; done) | (congr 1; symm; simp_all [limOk]; omega))
   refine TL.known 16 hb3 rfl ?_
   refine TL.gf 16 ?_
   refine TL.gf 16 ?_
   refine TL.gf 16 ?_
   refine TL.pk false (pB false) ?_
   refine TL.mv (pB false) ?_
   refine TL.gf 21 ?_
   refine TL.gf 21 ?_
   refine TL.gf 21 ?_
   refine TL.pk false (pB false) ?_
   refine TL.as (pB false) ?_
   refine TL.nil ?_
   refine T.ret ?_
   refine ⟨[(false, [.d (.bool false)])], (.cons rfl .nil), rfl, [], (RetC.r ?_ .nil)⟩ <;> (first | rfl | (congr 1; symm; simp only [limOk, *, Bool.and_true, Bool.true_and, Bool.and_false, Bool.false_and, decide_true, decide_false, and_true, true_and, and_self, and_false, false_and, Bool.and_self, not_true, not_false, Bool.not_true, Bool.not_false, ge_iff_le, gt_iff_lt, if_true, if_false, Bool.false_eq_true, ite_true, ite_false, reduceIte]; done) | (congr 1; symm; simp_all [limOk]; done) | (congr 1; symm; simp_all [limOk]; omega))
  refine TL.known 11 hb2 rfl ?_
  refine TL.gf 11 ?_
  refine TL.gf 11 ?_
  refine TL.gf 11 ?_
  refine TL.pk false (pB false) ?_
  refine TL.mv (pB false) ?_
  refine TL.gf 16 ?_
  refine TL.gf 16 ?_
  refine TL.gf 16 ?_
  refine TL.pk false (pB false) ?_
  refine TL.mv (pB false) ?_
  refine TL.gf 21 ?_
  refine TL.gf 21 ?_
  refine TL.gf 21 ?_
  refine TL.pk false (pB false) ?_
  refine TL.as (pB false) ?_
  refine TL.nil ?_
  refine T.ret ?_
  refine ⟨[(false, [.d (.bool false)])], (.cons rfl .nil), rfl, [], (RetC.r ?_ .nil)⟩ <;> (first | rfl | (congr 1; symm; simp only [limOk, *, Bool.and_true, Bool.true_and, Bool.and_false, Bool.false_and, decide_true, decide_false, and_true, true_and, and_self, and_false, false_and, Bool.and_self, not_true, not_false, Bool.not_true, Bool.not_false, ge_iff_le, gt_iff_lt, if_true, if_false, Bool.false_eq_true, ite_true, ite_false, reduceIte]; done) | (congr 1; symm; simp_all [limOk]; done) | (congr 1; symm; simp_all [limOk]; omega))
 refine TL.known 6 hb1 rfl ?_
 refine TL.gf 6 ?_
 refine TL.gf 6 ?_
 refine TL.gf 6 ?_
 refine TL.pk false (pB false) ?_
 refine TL.mv (pB false) ?_
 refine TL.gf 11 ?_
 refine TL.gf 11 ?_
 refine TL.gf 11 ?_
 refine TL.pk false (pB false) ?_
 refine TL.mv (pB false) ?_
 refine TL.gf 16 ?_
 refine TL.gf 16 ?_
 refine TL.gf 16 ?_
 refine TL.pk false (pB false) ?_
 refine TL.mv (pB false) ?_
 refine TL.gf 21 ?_
 refine TL.gf 21 ?_
 refine TL.gf 21 ?_
 refine TL.pk false (pB false) ?_
 refine TL.as (pB false) ?_
 refine TL.nil ?_
 refine T.ret ?_
 refine ⟨[(false, [.d (.bool false)])], (.cons rfl .nil), rfl, [], (RetC.r ?_ .nil)⟩ <;> (first | rfl | (congr 1; symm; simp only [limOk, *, Bool.and_true, Bool.true_and, Bool.and_false, Bool.false_and, decide_true, decide_false, and_true, true_and, and_self, and_false, false_and, Bool.and_self, not_true, not_false, Bool.not_true, Bool.not_false, ge_iff_le, gt_iff_lt, if_true, if_false, Bool.false_eq_true, ite_true, ite_false, reduceIte]; done) | (congr 1; symm; simp_all [limOk]; done) | (congr 1; symm; simp_all [limOk]; omega))
theorem ok_spec_l01Num (n : Int) : RO Tryd.prog 31 [.one (.int .i64 n)] [(false, [.rd (.bool (decide (0 ≤ n ∧ n ≤ 1152921504606846975)))])] := by
 refine RO.intro Tryd.func31 rfl 5 rfl (le_ok rfl) fun w Z => ?_
 refine T.seq ?_
 refine T.region ?_
 refine TL.as (pB false) ?_
 refine TL.nil ?_
 refine T.seq ?_
 refine T.region ?_
 refine TL.mv (pI n) ?_
 refine TL.c (Step.cl (xs := [.tmp 3, .const (.int .i64 0), .const (.int .i64 1152921504606846975)]) (ps := [(pI n), (pI 0), (pI 1152921504606846975)]) (g := .func 30) false (.cons (.one (.d _)) (.cons (.one (.d _)) (.cons (.one (.d _)) .nil))) (ok_spec_l01In n 0 1152921504606846975)) ?_
 refine TL.as (pB (decide (0 ≤ n ∧ n ≤ 1152921504606846975))) ?_
 refine TL.nil ?_
 refine T.ret ?_
 exact ⟨[(false, [.d (.bool (decide (0 ≤ n ∧ n ≤ 1152921504606846975)))])], (.cons rfl .nil), rfl, [], (RetC.rd' rfl .nil)⟩
theorem ok_spec_NumText (n : Int) : RO Tryd.prog 21 [.one (.int .i64 n)] [(false, [.rd (.str (numText n))])] := by
 refine RO.intro Tryd.func21 rfl 26 rfl (le_ok rfl) fun w Z => ?_
 refine T.seq ?_
 refine T.region ?_
 refine TL.as (.one (.d (.str ByteArray.empty))) ?_
 refine TL.nil ?_
 refine T.seq ?_
 refine T.seq ?_
 refine T.region ?_
 refine TL.mv (pI n) ?_
 refine TL.c (Step.cl (xs := [.tmp 4]) (ps := [(pI n)]) (g := .func 31) false (.cons (.one (.d _)) .nil) (ok_spec_l01Num n)) ?_
 refine TL.c (Step.not (b := (decide (0 ≤ n ∧ n ≤ 1152921504606846975))) rfl rfl (lt_ok rfl) rfl) ?_
 refine TL.nil ?_
 refine T.cni rfl (fun h1 => ?_) (fun h1 => ?_)
 ·
  refine T.seq ?_
  refine T.region ?_
  refine TL.as (.one (.d (.str ByteArray.empty))) ?_
  refine TL.nil ?_
  refine T.ret ?_
  refine ⟨[(false, [.d (.str ByteArray.empty)])], (.cons rfl .nil), rfl, [], (RetC.r ?_ .nil)⟩ <;> (first | rfl | (congr 1; rw [numText_in (by omega), ← hx3, digB_one (m := m) (by omega) (by omega) (48 + m) rfl]; done) | (congr 1; unfold numText; rw [if_neg (by rw [decide_eq_true_eq]; assumption)]; done) | (congr 1; rw [numText_in (by omega), digB_itoa (by omega)]; done))
 refine T.skip ?_
 refine T.seq ?_
 refine T.region ?_
 refine TL.as (.one (.d (.str ByteArray.empty))) ?_
 refine TL.nil ?_
 refine T.seq ?_
 refine T.block ?_
 refine T.loop (ι := ByteArray × Int) (fun xx_ => { tm := [(2, (.one (.d (.str ByteArray.empty)))), (3, (.one (.d (.str (xx_.1))))), (0, (pI (xx_.2)))], rows := [], boxes := [] }) (fun xx_ => 0 ≤ (xx_.2) ∧ (xx_.2) ≤ 1152921504606846975 ∧ digB (xx_.2) ++ (xx_.1) = digB n ∧ (xx_.1).size ≤ 20) (fun xx_ => (xx_.2).toNat) (ByteArray.empty, n) ?_ ?_ ?_
 · refine Env.le_mk ⟨rfl, ?_, ?_, trivial⟩ trivial trivial <;> (first | rfl | (simp; done) | (congr 3; omega))
 · (dsimp only; refine ⟨by omega, by omega, ByteArray.append_empty, by rw [ByteArray.size_empty]; omega⟩)
 intro xx_ hx
 obtain ⟨s, m⟩ := xx_
 try dsimp only at hx ⊢
 obtain ⟨hx1, hx2, hx3, hx4⟩ := hx
 refine T.seq ?_
 refine T.seq ?_
 refine T.region ?_
 refine TL.mv (pI m) ?_
 refine TL.b _ (Bin.gtr (k := .i64) (a := m) (b := 9)) ?_
 refine TL.nil ?_
 refine T.ci rfl (fun h2 => ?_) (fun h2 => ?_)
 ·
  refine T.skip ?_
  refine T.block ?_
  refine T.seq ?_
  refine T.region ?_
  refine TL.mv (pI m) ?_
  refine TL.c (Step.bin (r := .int .i64 (m % 10)) rfl rfl (lt_ok rfl) rfl rfl (Bin.rem (k := .i64) (a := m) (b := 10) (by decide) (Int.tmod_eq_emod_of_nonneg (by first | omega | (rw [strOfNums_size]; simp only [List.length_cons, List.length_nil]; omega))))) ?_
  refine TL.c (Step.bin (r := .int .i64 (48 + (m % 10))) rfl rfl (lt_ok rfl) rfl rfl (Bin.add (a := 48) (b := (m % 10)) (by first | exact wrap_ok (by first | omega | (rw [strOfNums_size]; simp only [List.length_cons, List.length_nil]; omega)) (by first | omega | (rw [strOfNums_size]; simp only [List.length_cons, List.length_nil]; omega)) | rfl))) ?_
  refine TL.c (Step.conv (c := (48 + (m % 10))) rfl rfl (lt_ok rfl) (by kernel_rfl) (by kernel_rfl) rfl (wrap_u8 (by first | omega | (rw [strOfNums_size]; simp only [List.length_cons, List.length_nil]; omega)) (by first | omega | (rw [strOfNums_size]; simp only [List.length_cons, List.length_nil]; omega)))) ?_
  refine TL.c (Step.lit (e := 5) (z := 1) (by_ := 1) (xs := [.tmp 12]) (pss := [[.d (.int .u8 (48 + (m % 10)))]]) (es := [(.int .u8 (48 + (m % 10)))]) (ss := []) (d := (.ints .u8 [48 + (m % 10)])) rfl rfl (lt_ok rfl) (by kernel_rfl) rfl rfl (.cons rfl .nil) (by simp) (le_ok rfl) (le_ok rfl) rfl (.val rfl .nil) rfl (by simp) (by simp) rfl trivial rfl rfl) ?_
  refine TL.c (Step.toStr (e := 5) (xs := [48 + (m % 10)]) rfl rfl (lt_ok rfl) (by kernel_rfl) (by kernel_rfl) (by kernel_rfl) rfl rfl) ?_
  refine TL.mv (.one (.d (.str s))) ?_
  refine TL.c (Step.bin rfl rfl (lt_ok rfl) rfl rfl (Bin.stradd (by first | omega | (rw [strOfNums_size]; simp only [List.length_cons, List.length_nil]; omega)))) ?_
  refine TL.as (.one (.d (.str ((strOfNums [48 + (m % 10)]) ++ s)))) ?_
  refine TL.nil ?_
  refine T.region ?_
  refine TL.mv (pI m) ?_
  refine TL.c (Step.bin (r := .int .i64 (m / 10)) rfl rfl (lt_ok rfl) rfl rfl (Bin.quo (k := .i64) (a := m) (b := 10) (by decide) (by rw [Int.tdiv_eq_ediv_of_nonneg (by first | omega | (rw [strOfNums_size]; simp only [List.length_cons, List.length_nil]; omega))]; exact wrap_ok (by first | omega | (rw [strOfNums_size]; simp only [List.length_cons, List.length_nil]; omega)) (by first | omega | (rw [strOfNums_size]; simp only [List.length_cons, List.length_nil]; omega))))) ?_
  refine TL.as (pI (m / 10)) ?_
  refine TL.nil ?_
  refine ⟨((strOfNums [48 + (m % 10)]) ++ s, m / 10), by (dsimp only; have e_ := digB_next (m := m) (by omega) (48 + m % 10) rfl s; refine ⟨by omega, by omega, e_.trans hx3, ?_⟩; have z_ := congrArg ByteArray.size (e_.trans hx3); simp only [ByteArray.size_append] at z_ ⊢; have := digB_size (m := n) (by omega); omega), by (dsimp only; omega), Env.le_mk ⟨rfl, ?_, ?_, trivial⟩ trivial trivial⟩ <;> (first | rfl | (simp; done) | (congr 3; omega))
 refine T.exit ?_
 refine T.seq ?_
 refine T.region ?_
 refine TL.mv (pI m) ?_
 refine TL.c (Step.bin (r := .int .i64 (48 + m)) rfl rfl (lt_ok rfl) rfl rfl (Bin.add (a := 48) (b := m) (by first | exact wrap_ok (by first | omega | (rw [strOfNums_size]; simp only [List.length_cons, List.length_nil]; omega)) (by first | omega | (rw [strOfNums_size]; simp only [List.length_cons, List.length_nil]; omega)) | rfl))) ?_
 refine TL.c (Step.conv (c := (48 + m)) rfl rfl (lt_ok rfl) (by kernel_rfl) (by kernel_rfl) rfl (wrap_u8 (by first | omega | (rw [strOfNums_size]; simp only [List.length_cons, List.length_nil]; omega)) (by first | omega | (rw [strOfNums_size]; simp only [List.length_cons, List.length_nil]; omega)))) ?_
 refine TL.c (Step.lit (e := 5) (z := 1) (by_ := 1) (xs := [.tmp 21]) (pss := [[.d (.int .u8 (48 + m))]]) (es := [(.int .u8 (48 + m))]) (ss := []) (d := (.ints .u8 [48 + m])) rfl rfl (lt_ok rfl) (by kernel_rfl) rfl rfl (.cons rfl .nil) (by simp) (le_ok rfl) (le_ok rfl) rfl (.val rfl .nil) rfl (by simp) (by simp) rfl trivial rfl rfl) ?_
 refine TL.c (Step.toStr (e := 5) (xs := [48 + m]) rfl rfl (lt_ok rfl) (by kernel_rfl) (by kernel_rfl) (by kernel_rfl) rfl rfl) ?_
 refine TL.mv (.one (.d (.str s))) ?_
 refine TL.c (Step.bin rfl rfl (lt_ok rfl) rfl rfl (Bin.stradd (by first | omega | (rw [strOfNums_size]; simp only [List.length_cons, List.length_nil]; omega)))) ?_
 refine TL.as (.one (.d (.str ((strOfNums [48 + m]) ++ s)))) ?_
 refine TL.nil ?_
 refine T.ret ?_
 refine ⟨[(false, [.d (.str ((strOfNums [48 + m]) ++ s))])], (.cons rfl .nil), rfl, [], (RetC.r ?_ .nil)⟩ <;> (first | rfl | (congr 1; rw [numText_in (by omega), ← hx3, digB_one (m := m) (by omega) (by omega) (48 + m) rfl]; done) | (congr 1; unfold numText; rw [if_neg (by rw [decide_eq_true_eq]; assumption)]; done) | (congr 1; rw [numText_in (by omega), digB_itoa (by omega)]; done))
theorem ok_spec_LimitsText (l : SLimits) : RO Tryd.prog 7 [.agg l.cells] [(false, [.rd (.str (limText l))])] := by
 refine RO.intro Tryd.func7 rfl 32 rfl (le_ok rfl) fun w Z => ?_
 refine T.seq ?_
 refine T.region ?_
 refine TL.c (Step.bx [cI l.f0, cI l.f1, cI l.f2, cI l.f3, cI l.f4]) ?_
 refine TL.as (.one (.d (.str ByteArray.empty))) ?_
 refine TL.nil ?_
 refine T.seq ?_
 refine T.seq ?_
 refine T.region ?_
 refine TL.c (Step.lba 5 [cI l.f0, cI l.f1, cI l.f2, cI l.f3, cI l.f4]) ?_
 refine TL.c (Step.cl (xs := [.tmp 6]) (ps := [(.agg [cI l.f0, cI l.f1, cI l.f2, cI l.f3, cI l.f4])]) (g := .func 20) false (.cons (.agg (.cons (.d _) (.cons (.d _) (.cons (.d _) (.cons (.d _) (.cons (.d _) .nil)))))) .nil) (ok_spec_LimitsOk l)) ?_
 refine TL.c (Step.not (b := (limOk l)) rfl rfl (lt_ok rfl) rfl) ?_
 refine TL.nil ?_
 refine T.cn rfl (fun h1 => ?_) (fun h1 => ?_)
 ·
  refine T.seq ?_
  refine T.region ?_
  refine TL.as (.one (.d (.str ByteArray.empty))) ?_
  refine TL.nil ?_
  refine T.ret ?_
  refine ⟨[(false, [.d (.str ByteArray.empty)])], (.cons rfl .nil), rfl, [], (RetC.r ?_ .nil)⟩ <;> (first | rfl | (congr 1; unfold limText; rw [if_neg (by simp_all)]; done) | (congr 1; unfold limText; rw [if_pos (by assumption), ← hx2, List.drop_of_length_le (by omega)]; rfl))
 refine T.skip ?_
 refine T.seq ?_
 refine T.region ?_
 refine TL.as (.one (.d (.str (⟨#[108, 105, 109, 105, 116, 115]⟩ : ByteArray)))) ?_
 refine TL.nil ?_
 refine T.seq ?_
 refine T.seq ?_
 refine T.region ?_
 refine TL.c (Step.fd 0 1 true) ?_
 refine TL.c (Step.lb (.d (.int .i64 l.f0))) ?_
 refine TL.c (Step.fd 1 1 true) ?_
 refine TL.c (Step.lb (.d (.int .i64 l.f1))) ?_
 refine TL.c (Step.fd 2 1 true) ?_
 refine TL.c (Step.lb (.d (.int .i64 l.f2))) ?_
 refine TL.c (Step.fd 3 1 true) ?_
 refine TL.c (Step.lb (.d (.int .i64 l.f3))) ?_
 refine TL.c (Step.fd 4 1 true) ?_
 refine TL.c (Step.lb (.d (.int .i64 l.f4))) ?_
 refine TL.c (Step.lit (e := 3) (z := 1) (by_ := 8) (xs := [.tmp 10, .tmp 12, .tmp 14, .tmp 16, .tmp 18]) (pss := [[cI l.f0], [cI l.f1], [cI l.f2], [cI l.f3], [cI l.f4]]) (es := [(.int .i64 l.f0), (.int .i64 l.f1), (.int .i64 l.f2), (.int .i64 l.f3), (.int .i64 l.f4)]) (ss := []) (d := (.ints .i64 [l.f0, l.f1, l.f2, l.f3, l.f4])) rfl rfl (lt_ok rfl) (by kernel_rfl) rfl rfl (.cons rfl (.cons rfl (.cons rfl (.cons rfl (.cons rfl .nil))))) (by simp) (le_ok rfl) (le_ok rfl) rfl (.val rfl (.val rfl (.val rfl (.val rfl (.val rfl .nil))))) rfl (by simp) (by simp) rfl trivial rfl rfl) ?_
 refine TL.c (Step.len (e := 3) (z := 1) (d := (.ints .i64 [l.f0, l.f1, l.f2, l.f3, l.f4])) rfl rfl (lt_ok rfl) (by kernel_rfl) rfl rfl) ?_
 refine TL.mv (pI 0) ?_
 refine TL.nil ?_
 refine T.block ?_
 refine T.loop (ι := Nat × ByteArray) (fun xx_ => { tm := [(2, (.one (.d (.str ByteArray.empty)))), (19, (.one (.row 19 []))), (20, (pI ([l.f0, l.f1, l.f2, l.f3, l.f4].length : Int))), (21, (pI ((xx_.1) : Int))), (3, (.one (.d (.str (xx_.2)))))], rows := [(19, (3, (.ints .i64 [l.f0, l.f1, l.f2, l.f3, l.f4])))], boxes := [(1, (25, [cI l.f0, cI l.f1, cI l.f2, cI l.f3, cI l.f4]))] }) (fun xx_ => (xx_.1) ≤ 5 ∧ addNums (xx_.2) ([l.f0, l.f1, l.f2, l.f3, l.f4].drop (xx_.1)) = addNums limTxt0 [l.f0, l.f1, l.f2, l.f3, l.f4] ∧ (xx_.2).size ≤ 6 + 21 * (xx_.1)) (fun xx_ => 5 - (xx_.1)) (0, limTxt0) ?_ ?_ ?_
 · refine Env.le_mk ⟨rfl, rfl, rfl, ?_, ?_, trivial⟩ ⟨rfl, trivial⟩ ⟨rfl, trivial⟩ <;> (first | rfl | (simp; done) | (congr 3; omega))
 · (dsimp only; exact ⟨by omega, rfl, by decide⟩)
 intro xx_ hx
 obtain ⟨i, s⟩ := xx_
 try dsimp only at hx ⊢
 obtain ⟨hx1, hx2, hx3⟩ := hx
 have lc_ : [l.f0, l.f1, l.f2, l.f3, l.f4].length = 5 := rfl
 have nt_ := numText_size ([l.f0, l.f1, l.f2, l.f3, l.f4].getD i 0)
 have sp_ : (⟨#[32]⟩ : ByteArray).size = 1 := rfl
 refine T.seq ?_
 refine T.region ?_
 refine TL.b _ (Bin.lss (k := .i64) (a := (i : Int)) (b := ([l.f0, l.f1, l.f2, l.f3, l.f4].length : Int))) ?_
 refine TL.nil ?_
 refine T.seq ?_
 refine T.ci rfl (fun h2 => ?_) (fun h2 => ?_)
 ·
  refine T.skip ?_
  refine T.seq ?_
  refine T.block ?_
  refine T.seq ?_
  refine T.region ?_
  refine TL.c (Step.index_row (e := 3) (z := 1) (i := (i : Int)) rfl rfl (lt_ok rfl) (by kernel_rfl) rfl rfl rfl rfl (lt_ok rfl) rfl (by first | omega | (rw [ByteArray.size_append]; omega)) (by simp only [D.at_, D.cell, D.size]; first | omega | (rw [ByteArray.size_append]; omega))) ?_
  refine TL.c (Step.load_row (c := cI ([l.f0, l.f1, l.f2, l.f3, l.f4].getD i 0)) rfl rfl (lt_ok rfl) (by kernel_rfl) rfl rfl rfl) ?_
  refine TL.as (pI ([l.f0, l.f1, l.f2, l.f3, l.f4].getD i 0)) ?_
  refine TL.nil ?_
  refine T.region ?_
  refine TL.mv (.one (.d (.str s))) ?_
  refine TL.c (Step.bin rfl rfl (lt_ok rfl) rfl rfl (Bin.stradd (by first | omega | (rw [ByteArray.size_append]; omega)))) ?_
  refine TL.mv (pI ([l.f0, l.f1, l.f2, l.f3, l.f4].getD i 0)) ?_
  refine TL.c (Step.cl (xs := [.tmp 27]) (ps := [(pI ([l.f0, l.f1, l.f2, l.f3, l.f4].getD i 0))]) (g := .func 21) false (.cons (.one (.d _)) .nil) (ok_spec_NumText ([l.f0, l.f1, l.f2, l.f3, l.f4].getD i 0))) ?_
  refine TL.c (Step.bin rfl rfl (lt_ok rfl) rfl rfl (Bin.stradd (by first | omega | (rw [ByteArray.size_append]; omega)))) ?_
  refine TL.as (.one (.d (.str ((s ++ (⟨#[32]⟩ : ByteArray)) ++ (numText ([l.f0, l.f1, l.f2, l.f3, l.f4].getD i 0)))))) ?_
  refine TL.nil ?_
  refine T.region ?_
  refine TL.c (Step.bin (r := .int .i64 ((i : Int) + 1)) rfl rfl (lt_ok rfl) rfl rfl (Bin.add (a := (i : Int)) (b := 1) (by first | exact wrap_ok (by first | omega | (rw [ByteArray.size_append]; omega)) (by first | omega | (rw [ByteArray.size_append]; omega)) | rfl))) ?_
  refine TL.mv (pI ((i : Int) + 1)) ?_
  refine TL.nil ?_
  refine ⟨(i + 1, (s ++ (⟨#[32]⟩ : ByteArray)) ++ (numText ([l.f0, l.f1, l.f2, l.f3, l.f4].getD i 0))), by (dsimp only; refine ⟨by omega, by first | (rw [← hx2, addNums_drop s _ i (by omega), ByteArray.append_assoc]; done) | (rw [← hx2, addNums_drop s _ i (by omega)]; done), ?_⟩; simp only [ByteArray.size_append]; omega), by (dsimp only; omega), Env.le_mk ⟨rfl, rfl, rfl, ?_, ?_, trivial⟩ ⟨rfl, trivial⟩ ⟨rfl, trivial⟩⟩ <;> (first | rfl | (simp; done) | (congr 3; omega))
 refine T.exit ?_
 refine T.seq ?_
 refine T.region ?_
 refine TL.mv (.one (.d (.str s))) ?_
 refine TL.as (.one (.d (.str s))) ?_
 refine TL.nil ?_
 refine T.ret ?_
 refine ⟨[(false, [.d (.str s)])], (.cons rfl .nil), rfl, [], (RetC.r ?_ .nil)⟩ <;> (first | rfl | (congr 1; unfold limText; rw [if_neg (by simp_all)]; done) | (congr 1; unfold limText; rw [if_pos (by assumption), ← hx2, List.drop_of_length_le (by omega)]; rfl))
theorem ok_laws_toLimits (a : SLimits) : RO Tryd.prog 8 [.agg a.cells] [(true, [.rd (.int .i64 a.f0), .rd (.int .i64 a.f1), .rd (.int .i64 a.f2), .rd (.int .i64 a.f3), .rd (.int .i64 a.f4)])] := by
 refine RO.intro Tryd.func8 rfl 20 rfl (le_ok rfl) fun w Z => ?_
 refine T.seq ?_
 refine T.region ?_
 refine TL.c (Step.bx [cI a.f0, cI a.f1, cI a.f2, cI a.f3, cI a.f4]) ?_
 refine TL.c (Step.al [cI 0, cI 0, cI 0, cI 0, cI 0]) ?_
 refine TL.nil ?_
 refine T.seq ?_
 refine T.region ?_
 refine TL.c (Step.al [cI 0, cI 0, cI 0, cI 0, cI 0]) ?_
 refine TL.nil ?_
 refine T.seq ?_
 refine T.region ?_
 refine TL.c (Step.fd 0 1 true) ?_
 refine TL.c (Step.lb (.d (.int .i64 a.f0))) ?_
 refine TL.c (Step.fd 0 1 true) ?_
 refine TL.c (Step.sb 1 [cI a.f0, cI 0, cI 0, cI 0, cI 0]) ?_
 refine TL.nil ?_
 refine T.seq ?_
 refine T.region ?_
 refine TL.c (Step.fd 1 1 true) ?_
 refine TL.c (Step.lb (.d (.int .i64 a.f1))) ?_
 refine TL.c (Step.fd 1 1 true) ?_
 refine TL.c (Step.sb 1 [cI a.f0, cI a.f1, cI 0, cI 0, cI 0]) ?_
 refine TL.nil ?_
 refine T.seq ?_
 refine T.region ?_
 refine TL.c (Step.fd 2 1 true) ?_
 refine TL.c (Step.lb (.d (.int .i64 a.f2))) ?_
 refine TL.c (Step.fd 2 1 true) ?_
 refine TL.c (Step.sb 1 [cI a.f0, cI a.f1, cI a.f2, cI 0, cI 0]) ?_
 refine TL.nil ?_
 refine T.seq ?_
 refine T.region ?_
 refine TL.c (Step.fd 3 1 true) ?_
 refine TL.c (Step.lb (.d (.int .i64 a.f3))) ?_
 refine TL.c (Step.fd 3 1 true) ?_
 refine TL.c (Step.sb 1 [cI a.f0, cI a.f1, cI a.f2, cI a.f3, cI 0]) ?_
 refine TL.nil ?_
 refine T.seq ?_
 refine T.region ?_
 refine TL.c (Step.fd 4 1 true) ?_
 refine TL.c (Step.lb (.d (.int .i64 a.f4))) ?_
 refine TL.c (Step.fd 4 1 true) ?_
 refine TL.c (Step.sb 1 [cI a.f0, cI a.f1, cI a.f2, cI a.f3, cI a.f4]) ?_
 refine TL.nil ?_
 refine T.seq ?_
 refine T.region ?_
 refine TL.c (Step.lba 5 [cI a.f0, cI a.f1, cI a.f2, cI a.f3, cI a.f4]) ?_
 refine TL.c (Step.sb 5 [cI a.f0, cI a.f1, cI a.f2, cI a.f3, cI a.f4]) ?_
 refine TL.nil ?_
 refine T.ret ?_
 exact ⟨[(true, [.d (.int .i64 a.f0), .d (.int .i64 a.f1), .d (.int .i64 a.f2), .d (.int .i64 a.f3), .d (.int .i64 a.f4)])], (.cons rfl .nil), rfl, [], (RetC.rd' rfl (RetC.rd' rfl (RetC.rd' rfl (RetC.rd' rfl (RetC.rd' rfl .nil)))))⟩
theorem ok_impl_within (n : Int) (low : Int) (high : Int) : RO Tryd.prog 32 [.one (.int .i64 n), .one (.int .i64 low), .one (.int .i64 high)] [(false, [.rd (.bool (decide (low ≤ n ∧ n ≤ high)))])] := by
 refine RO.intro Tryd.func32 rfl 15 rfl (le_ok rfl) fun w Z => ?_
 refine T.seq ?_
 refine T.region ?_
 refine TL.as (pB false) ?_
 refine TL.nil ?_
 refine T.seq ?_
 refine T.region ?_
 refine TL.mv (pI low) ?_
 refine TL.mv (pI n) ?_
 refine TL.b _ (Bin.leq (k := .i64) (a := low) (b := n)) ?_
 refine TL.mv (pB (decide (low ≤ n))) ?_
 rcases Bool.eq_false_or_eq_true (decide (low ≤ n)) with hb1 | hb1
 ·
  refine TL.known 10 hb1 rfl ?_
  refine TL.gm 10 (pI n) ?_
  refine TL.gm 10 (pI high) ?_
  refine TL.gy 10 (Step.bin rfl rfl (lt_ok rfl) rfl rfl (Bin.leq (k := .i64) (a := n) (b := high))) ?_
  refine TL.pk true (pB (decide (n ≤ high))) ?_
  refine TL.as (pB (decide (n ≤ high))) ?_
  refine TL.nil ?_
  refine T.ret ?_
  refine ⟨[(false, [.d (.bool (decide (n ≤ high)))])], (.cons rfl .nil), rfl, [], (RetC.r ?_ .nil)⟩ <;> (first | (congr 1; simp_all; done) | (congr 1; simp_all; omega))
 refine TL.known 10 hb1 rfl ?_
 refine TL.gf 10 ?_
 refine TL.gf 10 ?_
 refine TL.gf 10 ?_
 refine TL.pk false (pB false) ?_
 refine TL.as (pB false) ?_
 refine TL.nil ?_
 refine T.ret ?_
 refine ⟨[(false, [.d (.bool false)])], (.cons rfl .nil), rfl, [], (RetC.r ?_ .nil)⟩ <;> (first | (congr 1; simp_all; done) | (congr 1; simp_all; omega))
theorem ok_impl_LimitsOk (l : SLimits) : RO Tryd.prog 22 [.agg l.cells] [(false, [.rd (.bool (limOk l))])] := by
 refine RO.intro Tryd.func22 rfl 26 rfl (le_ok rfl) fun w Z => ?_
 refine T.seq ?_
 refine T.region ?_
 refine TL.c (Step.bx [cI l.f0, cI l.f1, cI l.f2, cI l.f3, cI l.f4]) ?_
 refine TL.as (pB false) ?_
 refine TL.nil ?_
 refine T.seq ?_
 refine T.region ?_
 refine TL.c (Step.fd 0 1 true) ?_
 refine TL.c (Step.lb (.d (.int .i64 l.f0))) ?_
 refine TL.c (Step.cl (xs := [.tmp 4, .const (.int .i64 1), .const (.int .i64 10)]) (ps := [(pI l.f0), (pI 1), (pI 10)]) (g := .func 32) false (.cons (.one (.d _)) (.cons (.one (.d _)) (.cons (.one (.d _)) .nil))) (ok_impl_within l.f0 1 10)) ?_
 refine TL.mv (pB (decide (1 ≤ l.f0 ∧ l.f0 ≤ 10))) ?_
 rcases Bool.eq_false_or_eq_true (decide (1 ≤ l.f0 ∧ l.f0 ≤ 10)) with hb1 | hb1
 ·
  refine TL.known 6 hb1 rfl ?_
  refine TL.gy 6 (Step.fd 1 1 true) ?_
  refine TL.gy 6 (Step.lb (.d (.int .i64 l.f1))) ?_
  refine TL.gy 6 (Step.cl (xs := [.tmp 8, .const (.int .i64 0), .const (.int .i64 40)]) (ps := [(pI l.f1), (pI 0), (pI 40)]) (g := .func 32) false (.cons (.one (.d _)) (.cons (.one (.d _)) (.cons (.one (.d _)) .nil))) (ok_impl_within l.f1 0 40)) ?_
  refine TL.pk true (pB (decide (0 ≤ l.f1 ∧ l.f1 ≤ 40))) ?_
  refine TL.mv (pB (decide (0 ≤ l.f1 ∧ l.f1 ≤ 40))) ?_
  rcases Bool.eq_false_or_eq_true (decide (0 ≤ l.f1 ∧ l.f1 ≤ 40)) with hb2 | hb2
  ·
   refine TL.known 11 hb2 rfl ?_
   refine TL.gy 11 (Step.fd 2 1 true) ?_
   refine TL.gy 11 (Step.lb (.d (.int .i64 l.f2))) ?_
   refine TL.gy 11 (Step.cl (xs := [.tmp 13, .const (.int .i64 0), .const (.int .i64 8)]) (ps := [(pI l.f2), (pI 0), (pI 8)]) (g := .func 32) false (.cons (.one (.d _)) (.cons (.one (.d _)) (.cons (.one (.d _)) .nil))) (ok_impl_within l.f2 0 8)) ?_
   refine TL.pk true (pB (decide (0 ≤ l.f2 ∧ l.f2 ≤ 8))) ?_
   refine TL.mv (pB (decide (0 ≤ l.f2 ∧ l.f2 ≤ 8))) ?_
   rcases Bool.eq_false_or_eq_true (decide (0 ≤ l.f2 ∧ l.f2 ≤ 8)) with hb3 | hb3
   ·
    refine TL.known 16 hb3 rfl ?_
    refine TL.gy 16 (Step.fd 3 1 true) ?_
    refine TL.gy 16 (Step.lb (.d (.int .i64 l.f3))) ?_
    refine TL.gy 16 (Step.cl (xs := [.tmp 18, .const (.int .i64 1), .const (.int .i64 4000)]) (ps := [(pI l.f3), (pI 1), (pI 4000)]) (g := .func 32) false (.cons (.one (.d _)) (.cons (.one (.d _)) (.cons (.one (.d _)) .nil))) (ok_impl_within l.f3 1 4000)) ?_
    refine TL.pk true (pB (decide (1 ≤ l.f3 ∧ l.f3 ≤ 4000))) ?_
    refine TL.mv (pB (decide (1 ≤ l.f3 ∧ l.f3 ≤ 4000))) ?_
    rcases Bool.eq_false_or_eq_true (decide (1 ≤ l.f3 ∧ l.f3 ≤ 4000)) with hb4 | hb4
    ·
     refine TL.known 21 hb4 rfl ?_
     refine TL.gy 21 (Step.fd 4 1 true) ?_
     refine TL.gy 21 (Step.lb (.d (.int .i64 l.f4))) ?_
     refine TL.gy 21 (Step.cl (xs := [.tmp 23, .const (.int .i64 3), .const (.int .i64 5)]) (ps := [(pI l.f4), (pI 3), (pI 5)]) (g := .func 32) false (.cons (.one (.d _)) (.cons (.one (.d _)) (.cons (.one (.d _)) .nil))) (ok_impl_within l.f4 3 5)) ?_
     refine TL.pk true (pB (decide (3 ≤ l.f4 ∧ l.f4 ≤ 5))) ?_
     refine TL.as (pB (decide (3 ≤ l.f4 ∧ l.f4 ≤ 5))) ?_
     refine TL.nil ?_
     refine T.ret ?_
     refine ⟨[(false, [.d (.bool (decide (3 ≤ l.f4 ∧ l.f4 ≤ 5)))])], (.cons rfl .nil), rfl, [], (RetC.r ?_ .nil)⟩ <;> (first | rfl | (congr 1; symm; simp only [limOk, *, Bool.and_true, Bool.true_and, Bool.and_false, Bool.false_and, decide_true, decide_false, and_true, true_and, and_self, and_false, false_and, Bool.and_self, not_true, not_false, Bool.not_true, Bool.not_false, ge_iff_le, gt_iff_lt, if_true, if_false, Bool.false_eq_true, ite_true, ite_false, reduceIte]; done) | (congr 1; symm; simp_all [limOk]; done) | (congr 1; symm; simp_all [limOk]; omega))
    refine TL.known 21 hb4 rfl ?_
    refine TL.gf 21 ?_
    refine TL.gf 21 ?_
    refine TL.gf 21 ?_
    refine TL.pk false (pB false) ?_
    refine TL.as (pB false) ?_
    refine TL.nil ?_
    refine T.ret ?_
    refine ⟨[(false, [.d (.bool false)])], (.cons rfl .nil), rfl, [], (RetC.r ?_ .nil)⟩ <;> (first | rfl | (congr 1; symm; simp only [limOk, *, Bool.and_true, Bool.true_and, Bool.and_false, Bool.false_and, decide_true, decide_false, and_true, true_and, and_self, and_false, false_and, Bool.and_self, not_true, not_false, Bool.not_true, Bool.not_false, ge_iff_le, gt_iff_lt, if_true, if_false, Bool.false_eq_true, ite_true, ite_false, reduceIte]; done) | (congr 1; symm; simp_all [limOk]; done) | (congr 1; symm; simp_all [limOk]; omega))
   refine TL.known 16 hb3 rfl ?_
   refine TL.gf 16 ?_
   refine TL.gf 16 ?_
   refine TL.gf 16 ?_
   refine TL.pk false (pB false) ?_
   refine TL.mv (pB false) ?_
   refine TL.gf 21 ?_
   refine TL.gf 21 ?_
   refine TL.gf 21 ?_
   refine TL.pk false (pB false) ?_
   refine TL.as (pB false) ?_
   refine TL.nil ?_
   refine T.ret ?_
   refine ⟨[(false, [.d (.bool false)])], (.cons rfl .nil), rfl, [], (RetC.r ?_ .nil)⟩ <;> (first | rfl | (congr 1; symm; simp only [limOk, *, Bool.and_true, Bool.true_and, Bool.and_false, Bool.false_and, decide_true, decide_false, and_true, true_and, and_self, and_false, false_and, Bool.and_self, not_true, not_false, Bool.not_true, Bool.not_false, ge_iff_le, gt_iff_lt, if_true, if_false, Bool.false_eq_true, ite_true, ite_false, reduceIte]; done) | (congr 1; symm; simp_all [limOk]; done) | (congr 1; symm; simp_all [limOk]; omega))
  refine TL.known 11 hb2 rfl ?_
  refine TL.gf 11 ?_
  refine TL.gf 11 ?_
  refine TL.gf 11 ?_
  refine TL.pk false (pB false) ?_
  refine TL.mv (pB false) ?_
  refine TL.gf 16 ?_
  refine TL.gf 16 ?_
  refine TL.gf 16 ?_
  refine TL.pk false (pB false) ?_
  refine TL.mv (pB false) ?_
  refine TL.gf 21 ?_
  refine TL.gf 21 ?_
  refine TL.gf 21 ?_
  refine TL.pk false (pB false) ?_
  refine TL.as (pB false) ?_
  refine TL.nil ?_
  refine T.ret ?_
  refine ⟨[(false, [.d (.bool false)])], (.cons rfl .nil), rfl, [], (RetC.r ?_ .nil)⟩ <;> (first | rfl | (congr 1; symm; simp only [limOk, *, Bool.and_true, Bool.true_and, Bool.and_false, Bool.false_and, decide_true, decide_false, and_true, true_and, and_self, and_false, false_and, Bool.and_self, not_true, not_false, Bool.not_true, Bool.not_false, ge_iff_le, gt_iff_lt, if_true, if_false, Bool.false_eq_true, ite_true, ite_false, reduceIte]; done) | (congr 1; symm; simp_all [limOk]; done) | (congr 1; symm; simp_all [limOk]; omega))
 refine TL.known 6 hb1 rfl ?_
 refine TL.gf 6 ?_
 refine TL.gf 6 ?_
 refine TL.gf 6 ?_
 refine TL.pk false (pB false) ?_
 refine TL.mv (pB false) ?_
 refine TL.gf 11 ?_
 refine TL.gf 11 ?_
 refine TL.gf 11 ?_
 refine TL.pk false (pB false) ?_
 refine TL.mv (pB false) ?_
 refine TL.gf 16 ?_
 refine TL.gf 16 ?_
 refine TL.gf 16 ?_
 refine TL.pk false (pB false) ?_
 refine TL.mv (pB false) ?_
 refine TL.gf 21 ?_
 refine TL.gf 21 ?_
 refine TL.gf 21 ?_
 refine TL.pk false (pB false) ?_
 refine TL.as (pB false) ?_
 refine TL.nil ?_
 refine T.ret ?_
 refine ⟨[(false, [.d (.bool false)])], (.cons rfl .nil), rfl, [], (RetC.r ?_ .nil)⟩ <;> (first | rfl | (congr 1; symm; simp only [limOk, *, Bool.and_true, Bool.true_and, Bool.and_false, Bool.false_and, decide_true, decide_false, and_true, true_and, and_self, and_false, false_and, Bool.and_self, not_true, not_false, Bool.not_true, Bool.not_false, ge_iff_le, gt_iff_lt, if_true, if_false, Bool.false_eq_true, ite_true, ite_false, reduceIte]; done) | (congr 1; symm; simp_all [limOk]; done) | (congr 1; symm; simp_all [limOk]; omega))
theorem ok_impl_isNum (n : Int) : RO Tryd.prog 33 [.one (.int .i64 n)] [(false, [.rd (.bool (decide (0 ≤ n ∧ n ≤ 1152921504606846975)))])] := by
 refine RO.intro Tryd.func33 rfl 5 rfl (le_ok rfl) fun w Z => ?_
 refine T.seq ?_
 refine T.region ?_
 refine TL.as (pB false) ?_
 refine TL.nil ?_
 refine T.seq ?_
 refine T.region ?_
 refine TL.mv (pI n) ?_
 refine TL.c (Step.cl (xs := [.tmp 3, .const (.int .i64 0), .const (.int .i64 1152921504606846975)]) (ps := [(pI n), (pI 0), (pI 1152921504606846975)]) (g := .func 32) false (.cons (.one (.d _)) (.cons (.one (.d _)) (.cons (.one (.d _)) .nil))) (ok_impl_within n 0 1152921504606846975)) ?_
 refine TL.as (pB (decide (0 ≤ n ∧ n ≤ 1152921504606846975))) ?_
 refine TL.nil ?_
 refine T.ret ?_
 exact ⟨[(false, [.d (.bool (decide (0 ≤ n ∧ n ≤ 1152921504606846975)))])], (.cons rfl .nil), rfl, [], (RetC.rd' rfl .nil)⟩
theorem ok_impl_NumText (n : Int) (w : World) (hv_ : Vtab_ w) : ROw Tryd.prog 23 [.one (.int .i64 n)] [(false, [.rd (.str (numText n))])] w := by
 refine ROw.intro Tryd.func23 rfl 8 w rfl (le_ok rfl) fun Z => ?_
 have hvs_ := kept_frame hkept_ hv_ Z 8
 refine T.seq ?_
 refine T.region ?_
 refine TL.as (.one (.d (.str ByteArray.empty))) ?_
 refine TL.nil ?_
 refine T.seq ?_
 refine T.seq ?_
 refine T.region ?_
 refine TL.mv (pI n) ?_
 refine TL.c (Step.cl (xs := [.tmp 3]) (ps := [(pI n)]) (g := .func 33) false (.cons (.one (.d _)) .nil) (ok_impl_isNum n)) ?_
 refine TL.c (Step.not (b := (decide (0 ≤ n ∧ n ≤ 1152921504606846975))) rfl rfl (lt_ok rfl) rfl) ?_
 refine TL.nil ?_
 refine T.cni rfl (fun h1 => ?_) (fun h1 => ?_)
 ·
  refine T.seq ?_
  refine T.region ?_
  refine TL.as (.one (.d (.str ByteArray.empty))) ?_
  refine TL.nil ?_
  refine T.ret ?_
  refine ⟨[(false, [.d (.str ByteArray.empty)])], (.cons rfl .nil), rfl, [], (RetC.r ?_ .nil)⟩ <;> (first | rfl | (congr 1; rw [numText_in (by omega), ← hx3, digB_one (m := m) (by omega) (by omega) (48 + m) rfl]; done) | (congr 1; unfold numText; rw [if_neg (by rw [decide_eq_true_eq]; assumption)]; done) | (congr 1; rw [numText_in (by omega), digB_itoa (by omega)]; done))
 refine T.skip ?_
 refine T.seq ?_
 refine T.region ?_
 refine TL.mv (pI n) ?_
 refine TL.c (Step.callW (f := 34) (xs := [.tmp 6]) (ps := [(pI n)]) false (g := .func 34) rfl rfl (lt_ok rfl) rfl (by kernel_rfl) rfl (.cons (.one (.d _)) .nil) (fun w_ hF_ => ok_strconv_Itoa n (by first | assumption | exact ⟨by omega, by omega⟩) w_ (hvs_ w_ hF_)) (.inr rfl) rfl (by simp) rfl) ?_
 refine TL.as (.one (.d (.str (⟨(Lib.itoa n).toArray⟩)))) ?_
 refine TL.nil ?_
 refine T.ret ?_
 refine ⟨[(false, [.d (.str (⟨(Lib.itoa n).toArray⟩))])], (.cons rfl .nil), rfl, [], (RetC.r ?_ .nil)⟩ <;> (first | rfl | (congr 1; rw [numText_in (by omega), ← hx3, digB_one (m := m) (by omega) (by omega) (48 + m) rfl]; done) | (congr 1; unfold numText; rw [if_neg (by rw [decide_eq_true_eq]; assumption)]; done) | (congr 1; rw [numText_in (by omega), digB_itoa (by omega)]; done))
theorem ok_impl_LimitsText (l : SLimits) (w : World) (hv_ : Vtab_ w) : ROw Tryd.prog 9 [.agg l.cells] [(false, [.rd (.str (limText l))])] w := by
 refine ROw.intro Tryd.func9 rfl 32 w rfl (le_ok rfl) fun Z => ?_
 have hvs_ := kept_frame hkept_ hv_ Z 32
 refine T.seq ?_
 refine T.region ?_
 refine TL.c (Step.bx [cI l.f0, cI l.f1, cI l.f2, cI l.f3, cI l.f4]) ?_
 refine TL.as (.one (.d (.str ByteArray.empty))) ?_
 refine TL.nil ?_
 refine T.seq ?_
 refine T.seq ?_
 refine T.region ?_
 refine TL.c (Step.lba 5 [cI l.f0, cI l.f1, cI l.f2, cI l.f3, cI l.f4]) ?_
 refine TL.c (Step.cl (xs := [.tmp 6]) (ps := [(.agg [cI l.f0, cI l.f1, cI l.f2, cI l.f3, cI l.f4])]) (g := .func 22) false (.cons (.agg (.cons (.d _) (.cons (.d _) (.cons (.d _) (.cons (.d _) (.cons (.d _) .nil)))))) .nil) (ok_impl_LimitsOk l)) ?_
 refine TL.c (Step.not (b := (limOk l)) rfl rfl (lt_ok rfl) rfl) ?_
 refine TL.nil ?_
 refine T.cn rfl (fun h1 => ?_) (fun h1 => ?_)
 ·
  refine T.seq ?_
  refine T.region ?_
  refine TL.as (.one (.d (.str ByteArray.empty))) ?_
  refine TL.nil ?_
  refine T.ret ?_
  refine ⟨[(false, [.d (.str ByteArray.empty)])], (.cons rfl .nil), rfl, [], (RetC.r ?_ .nil)⟩ <;> (first | rfl | (congr 1; unfold limText; rw [if_neg (by simp_all)]; done) | (congr 1; unfold limText; rw [if_pos (by assumption), ← hx2, List.drop_of_length_le (by omega)]; rfl))
 refine T.skip ?_
 refine T.seq ?_
 refine T.region ?_
 refine TL.as (.one (.d (.str (⟨#[108, 105, 109, 105, 116, 115]⟩ : ByteArray)))) ?_
 refine TL.nil ?_
 refine T.seq ?_
 refine T.seq ?_
 refine T.region ?_
 refine TL.c (Step.fd 0 1 true) ?_
 refine TL.c (Step.lb (.d (.int .i64 l.f0))) ?_
 refine TL.c (Step.fd 1 1 true) ?_
 refine TL.c (Step.lb (.d (.int .i64 l.f1))) ?_
 refine TL.c (Step.fd 2 1 true) ?_
 refine TL.c (Step.lb (.d (.int .i64 l.f2))) ?_
 refine TL.c (Step.fd 3 1 true) ?_
 refine TL.c (Step.lb (.d (.int .i64 l.f3))) ?_
 refine TL.c (Step.fd 4 1 true) ?_
 refine TL.c (Step.lb (.d (.int .i64 l.f4))) ?_
 refine TL.c (Step.lit (e := 3) (z := 1) (by_ := 8) (xs := [.tmp 10, .tmp 12, .tmp 14, .tmp 16, .tmp 18]) (pss := [[cI l.f0], [cI l.f1], [cI l.f2], [cI l.f3], [cI l.f4]]) (es := [(.int .i64 l.f0), (.int .i64 l.f1), (.int .i64 l.f2), (.int .i64 l.f3), (.int .i64 l.f4)]) (ss := []) (d := (.ints .i64 [l.f0, l.f1, l.f2, l.f3, l.f4])) rfl rfl (lt_ok rfl) (by kernel_rfl) rfl rfl (.cons rfl (.cons rfl (.cons rfl (.cons rfl (.cons rfl .nil))))) (by simp) (le_ok rfl) (le_ok rfl) rfl (.val rfl (.val rfl (.val rfl (.val rfl (.val rfl .nil))))) rfl (by simp) (by simp) rfl trivial rfl rfl) ?_
 refine TL.c (Step.len (e := 3) (z := 1) (d := (.ints .i64 [l.f0, l.f1, l.f2, l.f3, l.f4])) rfl rfl (lt_ok rfl) (by kernel_rfl) rfl rfl) ?_
 refine TL.mv (pI 0) ?_
 refine TL.nil ?_
 refine T.block ?_
 refine T.loop (ι := Nat × ByteArray) (fun xx_ => { tm := [(2, (.one (.d (.str ByteArray.empty)))), (19, (.one (.row 19 []))), (20, (pI ([l.f0, l.f1, l.f2, l.f3, l.f4].length : Int))), (21, (pI ((xx_.1) : Int))), (3, (.one (.d (.str (xx_.2)))))], rows := [(19, (3, (.ints .i64 [l.f0, l.f1, l.f2, l.f3, l.f4])))], boxes := [(1, (25, [cI l.f0, cI l.f1, cI l.f2, cI l.f3, cI l.f4]))] }) (fun xx_ => (xx_.1) ≤ 5 ∧ addNums (xx_.2) ([l.f0, l.f1, l.f2, l.f3, l.f4].drop (xx_.1)) = addNums limTxt0 [l.f0, l.f1, l.f2, l.f3, l.f4] ∧ (xx_.2).size ≤ 6 + 21 * (xx_.1)) (fun xx_ => 5 - (xx_.1)) (0, limTxt0) ?_ ?_ ?_
 · refine Env.le_mk ⟨rfl, rfl, rfl, ?_, ?_, trivial⟩ ⟨rfl, trivial⟩ ⟨rfl, trivial⟩ <;> (first | rfl | (simp; done) | (congr 3; omega))
 · (dsimp only; exact ⟨by omega, rfl, by decide⟩)
 intro xx_ hx
 obtain ⟨i, s⟩ := xx_
 try dsimp only at hx ⊢
 obtain ⟨hx1, hx2, hx3⟩ := hx
 have lc_ : [l.f0, l.f1, l.f2, l.f3, l.f4].length = 5 := rfl
 have nt_ := numText_size ([l.f0, l.f1, l.f2, l.f3, l.f4].getD i 0)
 have sp_ : (⟨#[32]⟩ : ByteArray).size = 1 := rfl
 refine T.seq ?_
 refine T.region ?_
 refine TL.b _ (Bin.lss (k := .i64) (a := (i : Int)) (b := ([l.f0, l.f1, l.f2, l.f3, l.f4].length : Int))) ?_
 refine TL.nil ?_
 refine T.seq ?_
 refine T.ci rfl (fun h2 => ?_) (fun h2 => ?_)
 ·
  refine T.skip ?_
  refine T.seq ?_
  refine T.block ?_
  refine T.seq ?_
  refine T.region ?_
  refine TL.c (Step.index_row (e := 3) (z := 1) (i := (i : Int)) rfl rfl (lt_ok rfl) (by kernel_rfl) rfl rfl rfl rfl (lt_ok rfl) rfl (by first | omega | (rw [ByteArray.size_append]; omega)) (by simp only [D.at_, D.cell, D.size]; first | omega | (rw [ByteArray.size_append]; omega))) ?_
  refine TL.c (Step.load_row (c := cI ([l.f0, l.f1, l.f2, l.f3, l.f4].getD i 0)) rfl rfl (lt_ok rfl) (by kernel_rfl) rfl rfl rfl) ?_
  refine TL.as (pI ([l.f0, l.f1, l.f2, l.f3, l.f4].getD i 0)) ?_
  refine TL.nil ?_
  refine T.region ?_
  refine TL.mv (.one (.d (.str s))) ?_
  refine TL.mv (pI ([l.f0, l.f1, l.f2, l.f3, l.f4].getD i 0)) ?_
  refine TL.c (Step.callW (f := 23) (xs := [.tmp 26]) (ps := [(pI ([l.f0, l.f1, l.f2, l.f3, l.f4].getD i 0))]) false (g := .func 23) rfl rfl (lt_ok rfl) rfl (by kernel_rfl) rfl (.cons (.one (.d _)) .nil) (fun w_ hF_ => ok_impl_NumText ([l.f0, l.f1, l.f2, l.f3, l.f4].getD i 0) w_ (hvs_ w_ hF_)) (.inr rfl) rfl (by simp) rfl) ?_
  refine TL.c (Step.bin rfl rfl (lt_ok rfl) rfl rfl (Bin.stradd (by first | omega | (rw [ByteArray.size_append]; omega)))) ?_
  refine TL.c (Step.bin rfl rfl (lt_ok rfl) rfl rfl (Bin.stradd (by first | omega | (rw [ByteArray.size_append]; omega)))) ?_
  refine TL.as (.one (.d (.str (s ++ ((⟨#[32]⟩ : ByteArray) ++ (numText ([l.f0, l.f1, l.f2, l.f3, l.f4].getD i 0))))))) ?_
  refine TL.nil ?_
  refine T.region ?_
  refine TL.c (Step.bin (r := .int .i64 ((i : Int) + 1)) rfl rfl (lt_ok rfl) rfl rfl (Bin.add (a := (i : Int)) (b := 1) (by first | exact wrap_ok (by first | omega | (rw [ByteArray.size_append]; omega)) (by first | omega | (rw [ByteArray.size_append]; omega)) | rfl))) ?_
  refine TL.mv (pI ((i : Int) + 1)) ?_
  refine TL.nil ?_
  refine ⟨(i + 1, s ++ ((⟨#[32]⟩ : ByteArray) ++ (numText ([l.f0, l.f1, l.f2, l.f3, l.f4].getD i 0)))), by (dsimp only; refine ⟨by omega, by first | (rw [← hx2, addNums_drop s _ i (by omega), ByteArray.append_assoc]; done) | (rw [← hx2, addNums_drop s _ i (by omega)]; done), ?_⟩; simp only [ByteArray.size_append]; omega), by (dsimp only; omega), Env.le_mk ⟨rfl, rfl, rfl, ?_, ?_, trivial⟩ ⟨rfl, trivial⟩ ⟨rfl, trivial⟩⟩ <;> (first | rfl | (simp; done) | (congr 3; omega))
 refine T.exit ?_
 refine T.seq ?_
 refine T.region ?_
 refine TL.mv (.one (.d (.str s))) ?_
 refine TL.as (.one (.d (.str s))) ?_
 refine TL.nil ?_
 refine T.ret ?_
 refine ⟨[(false, [.d (.str s)])], (.cons rfl .nil), rfl, [], (RetC.r ?_ .nil)⟩ <;> (first | rfl | (congr 1; unfold limText; rw [if_neg (by simp_all)]; done) | (congr 1; unfold limText; rw [if_pos (by assumption), ← hx2, List.drop_of_length_le (by omega)]; rfl))
theorem ok_laws_FnExactLimitsText (aL : SLimits) (h0_ : aL.ok) (w : World) (hv_ : Vtab_ w) : ROw Tryd.prog 3 [.agg aL.cells] [(false, [.rd (.bool true)])] w := by
 refine ROw.intro Tryd.func3 rfl 14 w rfl (le_ok rfl) fun Z => ?_
 have hvs_ := kept_frame hkept_ hv_ Z 14
 refine T.seq ?_
 refine T.region ?_
 refine TL.c (Step.bx [cI aL.f0, cI aL.f1, cI aL.f2, cI aL.f3, cI aL.f4]) ?_
 refine TL.as (pB false) ?_
 refine TL.nil ?_
 refine T.seq ?_
 refine T.region ?_
 refine TL.c (Step.lba 5 [cI aL.f0, cI aL.f1, cI aL.f2, cI aL.f3, cI aL.f4]) ?_
 refine TL.c (Step.cl (xs := [.tmp 5]) (ps := [(.agg [cI aL.f0, cI aL.f1, cI aL.f2, cI aL.f3, cI aL.f4])]) (g := .func 8) false (.cons (.agg (.cons (.d _) (.cons (.d _) (.cons (.d _) (.cons (.d _) (.cons (.d _) .nil)))))) .nil) (ok_laws_toLimits aL)) ?_
 refine TL.c (Step.cl (xs := [.tmp 6]) (ps := [(.agg [cI aL.f0, cI aL.f1, cI aL.f2, cI aL.f3, cI aL.f4])]) (g := .func 7) false (.cons (.agg (.cons (.d _) (.cons (.d _) (.cons (.d _) (.cons (.d _) (.cons (.d _) .nil)))))) .nil) (ok_spec_LimitsText aL)) ?_
 refine TL.as (.one (.d (.str (limText aL)))) ?_
 refine TL.nil ?_
 refine T.seq ?_
 refine T.region ?_
 refine TL.c (Step.lba 5 [cI aL.f0, cI aL.f1, cI aL.f2, cI aL.f3, cI aL.f4]) ?_
 refine TL.c (Step.cl (xs := [.tmp 8]) (ps := [(.agg [cI aL.f0, cI aL.f1, cI aL.f2, cI aL.f3, cI aL.f4])]) (g := .func 8) false (.cons (.agg (.cons (.d _) (.cons (.d _) (.cons (.d _) (.cons (.d _) (.cons (.d _) .nil)))))) .nil) (ok_laws_toLimits aL)) ?_
 refine TL.c (Step.callW (f := 9) (xs := [.tmp 9]) (ps := [(.agg [cI aL.f0, cI aL.f1, cI aL.f2, cI aL.f3, cI aL.f4])]) false (g := .func 9) rfl rfl (lt_ok rfl) rfl (by kernel_rfl) rfl (.cons (.agg (.cons (.d _) (.cons (.d _) (.cons (.d _) (.cons (.d _) (.cons (.d _) .nil)))))) .nil) (fun w_ hF_ => ok_impl_LimitsText aL w_ (hvs_ w_ hF_)) (.inr rfl) rfl (by simp) rfl) ?_
 refine TL.as (.one (.d (.str (limText aL)))) ?_
 refine TL.nil ?_
 refine T.seq ?_
 refine T.seq ?_
 refine T.region ?_
 refine TL.mv (.one (.d (.str (limText aL)))) ?_
 refine TL.mv (.one (.d (.str (limText aL)))) ?_
 refine TL.c (Step.bin rfl rfl (lt_ok rfl) rfl rfl Bin.strne) ?_
 refine TL.nil ?_
 refine T.cn rfl (fun h1 => ?_) (fun h1 => ?_)
 ·
  refine T.seq ?_
  refine T.region ?_
  refine TL.as (pB false) ?_
  refine TL.nil ?_
  refine T.ret ?_
  refine ⟨[(false, [.d (.bool false)])], (.cons rfl .nil), rfl, [], (RetC.r ?_ .nil)⟩ <;> (first | rfl | (exfalso; simp at *; done))
 refine T.skip ?_
 refine T.seq ?_
 refine T.region ?_
 refine TL.as (pB true) ?_
 refine TL.nil ?_
 refine T.ret ?_
 exact ⟨[(false, [.d (.bool true)])], (.cons rfl .nil), rfl, [], (RetC.rd' rfl .nil)⟩
end Go.Proofs.YtppldhkkhadngaaDoor.Rf
