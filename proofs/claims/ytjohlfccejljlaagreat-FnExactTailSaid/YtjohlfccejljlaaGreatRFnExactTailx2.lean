/- The functions that FnExactTail calls, each held to what it answers. Printed by a program of this session; Lean checks it. -/
import Derived.Test.YtjohlfccejljlaaGreatProg
import Derived.Test.YtjohlfccejljlaaGreatRFnExactTailx1
namespace Go.Proofs.YtjohlfccejljlaaGreat.Rf
open Go.RowKit
set_option linter.unusedVariables false
set_option linter.unnecessarySimpa false
set_option linter.unusedSimpArgs false
set_option maxRecDepth 100000
set_option maxHeartbeats 40000000
theorem ok_impl_BitsOk (b : List Int) (n : Int) (h0_ : U8s b) (h1_ : b.length ≤ 1099511627776) : RO Tryz.prog 137 [.one (.ints .u8 b), .one (.int .i64 n)] [(false, [.rd (.bool (bitsOk b n))])] := by
 refine RO.intro Tryz.func137 rfl 28 rfl (le_ok rfl) fun w Z => ?_
 refine T.bnd 0 0 rfl rfl fun hb_0_0 => ?_
 simp only [D.size, List.length_map] at hb_0_0
 refine T.sr [(4, (pB false))] [] ?_
 refine T.seq (T.sg ?_)
 refine TL.rx 1 [(7, (pI n))] [] ?_
 refine TL.c (Step.cz (ok_impl_within n 1 10)) ?_
 refine TL.rx 2 [(10, (pB (!(decide (1 ≤ n ∧ n ≤ 10)))))] [] ?_
 rcases Bool.eq_false_or_eq_true (!(decide (1 ≤ n ∧ n ≤ 10))) with hb1 | hb1
 ·refine TL.known 10 hb1 rfl ?_
  have hb1' := hb1
  replace hb1' : (decide (1 ≤ n ∧ n ≤ 10)) = false := by simpa only [Bool.not_eq_true', Bool.not_eq_false'] using hb1'
  replace hb1' := of_decide_eq_false hb1'
  refine TL.rl [(16, (pB true))] [] ?_
  refine T.ct ?_
  refine T.sr [(4, (pB false))] [] ?_
  refine T.ret ?_
  exact p_163
 refine TL.known 10 hb1 rfl ?_
 have hb1' := hb1
 replace hb1' : (decide (1 ≤ n ∧ n ≤ 10)) = true := by simpa only [Bool.not_eq_true', Bool.not_eq_false'] using hb1'
 replace hb1' := of_decide_eq_true hb1'
 refine TL.rx 1 [(11, (pS b))] [] ?_
 refine TL.gy 10 (Step.ln 5 1 (.ints .u8 b)) ?_
 refine TL.rx 1 [(13, (pI n))] [] ?_
 refine TL.gy 10 (Step.cz (ok_impl_BitsSize n p_1)) ?_
 refine TL.rl [(16, (pB (decide ((b.length : Int) ≠ (bitsSize n)))))] [] ?_
 refine T.ci rfl (fun h2 => ?_) (fun h2 => ?_)
 ·refine T.sr [(4, (pB false))] [] ?_
  refine T.ret ?_
  exact p_163
 refine T.skip (T.seq (T.sg ?_))
 refine TL.rx 1 [(17, (pS b))] [] ?_
 have nn3 := bitList_len b
 refine TL.c (Step.cz (ok_impl_BitsList b p_5 p_1)) ?_
 refine TL.c (Step.ln 3 1 (.ints .i64 (bitList b))) ?_
 refine TL.rl [(20, (pI 0))] [] ?_
 refine T.block ?_
 refine T.loop (ι := Nat) (fun xx_ => { tm := [(1, (pI n)), (18, (.one (.row 1018 []))), (19, (pI ((bitList b).length : Int))), (20, (pI (xx_ : Int)))], rows := [(1018, (3, (.ints .i64 (bitList b))))], boxes := [] }) (fun xx_ => xx_ ≤ (bitList b).length ∧ ((bitList b).take xx_).all (fun x => decide (x < n)) = true) (fun xx_ => (bitList b).length - xx_) 0 ?_ ?_ ?_
 · refine Env.le_mk ⟨rfl, rfl, rfl, ?_, trivial⟩ ⟨rfl, trivial⟩ trivial <;> exact p_106
 · (refine ⟨Nat.zero_le _, by rw [List.take_zero]; rfl⟩)
 intro i hx
 try dsimp only at hx ⊢
 obtain ⟨hx1, hx2⟩ := hx
 refine T.sr [(21, (pB (decide ((i : Int) < ((bitList b).length : Int)))))] [] ?_
 refine T.seq ?_
 refine T.ci rfl (fun h4 => ?_) (fun h4 => ?_)
 ·refine T.skip (T.seq (T.block (T.sg ?_)))
  refine TL.c (Step.index_row (e := 3) (z := 1) (i := (i : Int)) rfl rfl (lt_ok rfl) p_7 rfl rfl rfl rfl (lt_ok rfl) rfl p_23 p_99) ?_
  refine TL.c (Step.load_row (c := cI ((bitList b).getD i 0)) rfl rfl (lt_ok rfl) p_7 rfl rfl rfl) ?_
  refine TL.rl [(6, (pI ((bitList b).getD i 0)))] [] ?_
  refine T.sr [(26, (pB (decide (n ≤ ((bitList b).getD i 0)))))] [] ?_
  refine T.ci rfl (fun h5 => ?_) (fun h5 => ?_)
  ·refine T.sr [(4, (pB false))] [] ?_
   refine T.ret ?_
   exact p_163
  refine T.skip (T.region ?_)
  refine TL.ad ((i : Int) + 1) ?_
  refine TL.rl [(20, (pI ((i : Int) + 1)))] [] ?_
  refine ⟨i + 1, by (refine ⟨by omega, all_step p_4 hx2 p_4⟩), by first | omega | (dsimp only; omega), Env.le_mk ⟨rfl, rfl, rfl, ?_, trivial⟩ ⟨rfl, trivial⟩ trivial⟩ <;> exact p_106
 refine T.exit ?_
 refine T.sr [(4, (pB true))] [] ?_
 refine T.ret ?_
 exact p_163
theorem ok_impl_GetBits (b : List Int) (a : Int) (n : Int) (h0_ : U8s b) (h1_ : b.length ≤ 1048576) : RO Tryz.prog 113 [.one (.ints .u8 b), .one (.int .i64 a), .one (.int .i64 n)] [(false, [.own 5 (.ints .u8 (ai b a n).1)]), (false, [.rd (.int .i64 (ai b a n).2.1)]), (false, [.rd (.int .i64 (ai b a n).2.2)])] := by
 refine RO.intro Tryz.func113 rfl 33 rfl (le_ok rfl) fun w Z => ?_
 refine T.bnd 0 0 rfl rfl fun hb_0_0 => ?_
 simp only [D.size, List.length_map] at hb_0_0
 have hu_ := getRaw_u8 h0_ a (bitsSize n)
 refine T.sr [(6, (.one (.nil))), (7, (pI 0)), (8, (pI 0))] [] ?_
 refine T.seq (T.sg ?_)
 refine TL.rx 1 [(12, (pI n))] [] ?_
 refine TL.c (Step.cz (ok_impl_within n 1 10)) ?_
 refine TL.rl [(14, (pB (!(decide (1 ≤ n ∧ n ≤ 10)))))] [] ?_
 refine T.cni rfl (fun h1 => ?_) (fun h1 => ?_)
 ·refine T.sr [(6, (.one (.nil))), (7, (pI 0)), (8, (pI 5))] [] ?_
  refine T.ret ?_
  exact p_130
 refine T.skip (T.sg ?_)
 refine TL.rx 3 [(16, (pS b)), (17, (pI a)), (18, (pI n))] [] ?_
 refine TL.c (Step.cz (ok_impl_BitsSize n p_1)) ?_
 have nn2 := getRaw_bd b a (bitsSize n)
 refine TL.c (Step.cz (ok_impl_GetRaw b a (bitsSize n) p_1)) ?_
 refine TL.rl [(9, (.one (.row 1020 []))), (10, (pI (au b a (bitsSize n)).2.1)), (11, (pI (au b a (bitsSize n)).2.2))] [] ?_
 refine T.seq ?_
 refine T.sr [(25, (pB (decide ((au b a (bitsSize n)).2.2 ≠ 0))))] [] ?_
 refine T.ci rfl (fun h3 => ?_) (fun h3 => ?_)
 ·refine T.sr [(6, (.one (.nil))), (7, (pI 0)), (8, (pI (au b a (bitsSize n)).2.2))] [] ?_
  refine T.ret ?_
  exact p_130
 refine T.skip (T.seq (T.sg ?_))
 refine TL.rx 2 [(27, (.one (.row 1020 []))), (28, (pI n))] [] ?_
 refine TL.c (Step.cz (ok_impl_BitsOk (au b a (bitsSize n)).1 n p_5 p_1)) ?_
 refine TL.rl [(30, (pB (!(bitsOk (au b a (bitsSize n)).1 n))))] [] ?_
 refine T.cn rfl (fun h4 => ?_) (fun h4 => ?_)
 ·refine T.sr [(6, (.one (.nil))), (7, (pI 0)), (8, (pI 4))] [] ?_
  refine T.ret ?_
  exact p_130
 refine T.skip ?_
 refine T.sr [(6, (.one (.row 1020 []))), (7, (pI (au b a (bitsSize n)).2.1)), (8, (pI 0))] [] ?_
 refine T.ret ?_
 exact p_171
theorem ok_math_bits_OnesCount8 (x : Int) (h0_ : 0 ≤ x ∧ x ≤ 255) : RO Tryz.prog 138 [.one (.int .u8 x)] [(false, [.rd (.int .i64 (ones x))])] := by
 refine RO.intro Tryz.func138 rfl 6 rfl (le_ok rfl) fun w Z => ?_
 have ho_ := ones_bd x
 refine T.sr [(2, (pI 0))] [] ?_
 refine T.sg ?_
 refine TL.rx 1 [(3, (.one (.d (.int .u8 x))))] [] ?_
 refine TL.c (Step.index_str (c := (ones x)) rfl rfl (lt_ok rfl) p_7 rfl rfl p_23 (by obtain ⟨n, hn⟩ : ∃ n : Fin 256, x = ((n.val : Nat) : Int) := ⟨⟨x.toNat, by omega⟩, by simp only; omega⟩; subst hn; clear h0_ ho_; revert n; decide +kernel)) ?_
 refine TL.c (Step.conv (c := (ones x)) rfl rfl (lt_ok rfl) p_7 p_7 rfl (wrap_ok p_23 p_23)) ?_
 refine TL.rl [(2, (pI (ones x)))] [] ?_
 refine T.ret ?_
 exact ⟨_, (.cons rfl .nil), rfl, _, (.r rfl .nil)⟩
theorem ok_impl_BitsCount (b : List Int) (h0_ : U8s b) (h1_ : b.length ≤ 1099511627776) : RO Tryz.prog 114 [.one (.ints .u8 b)] [(false, [.rd (.int .i64 ((bitList b).length : Int))])] := by
 refine RO.intro Tryz.func114 rfl 18 rfl (le_ok rfl) fun w Z => ?_
 refine T.bnd 0 0 rfl rfl fun hb_0_0 => ?_
 simp only [D.size, List.length_map] at hb_0_0
 refine T.sr [(2, (pI 0))] [] ?_
 refine T.sr [(3, (pI 0))] [] ?_
 refine T.seq (T.sg ?_)
 refine TL.rx 1 [(6, (pS b))] [] ?_
 refine TL.c (Step.ln 5 1 (.ints .u8 b)) ?_
 refine TL.rl [(8, (pI 0))] [] ?_
 refine T.block ?_
 refine T.loop (ι := Nat × Int) (fun xx_ => { tm := [(2, (pI 0)), (6, (pS b)), (7, (pI (b.length : Int))), (8, (pI ((xx_.1) : Int))), (3, (pI (xx_.2)))], rows := [], boxes := [] }) (fun xx_ => (xx_.1) ≤ b.length ∧ 0 ≤ (xx_.2) ∧ (xx_.2) ≤ 8 * (xx_.1) ∧ (xx_.2) + onesSum (b.drop (xx_.1)) = ((bitList b).length : Int)) (fun xx_ => b.length - (xx_.1)) (0, 0) ?_ ?_ ?_
 · refine Env.le_mk ⟨rfl, rfl, rfl, ?_, ?_, trivial⟩ trivial trivial <;> exact p_60
 · (dsimp only; refine ⟨Nat.zero_le _, by omega, by omega, by rw [List.drop_zero, onesSum_all]; omega⟩)
 intro xx_ hx
 obtain ⟨i, c⟩ := xx_
 try dsimp only at hx ⊢
 obtain ⟨hx1, hx2, hx3, hx4⟩ := hx
 have hob_ := ones_bd (b.getD i 0)
 refine T.sr [(9, (pB (decide ((i : Int) < (b.length : Int)))))] [] ?_
 refine T.seq ?_
 refine T.ci rfl (fun h1 => ?_) (fun h1 => ?_)
 ·refine T.skip (T.seq (T.block (T.sg ?_)))
  refine TL.c (Step.index (e := 5) (z := 1) (i := (i : Int)) rfl rfl (lt_ok rfl) p_7 rfl rfl rfl (lt_ok rfl) rfl p_23 p_47) ?_
  refine TL.c (Step.load (e := (.int .u8 (b.getD i 0))) rfl rfl (lt_ok rfl) p_7 rfl rfl) ?_
  refine TL.rl [(5, (.one (.d (.int .u8 (b.getD i 0)))))] [] ?_
  refine T.region ?_
  refine TL.rx 2 [(12, (pI c)), (13, (.one (.d (.int .u8 (b.getD i 0)))))] [] ?_
  have nn2 := ones_bd (b.getD i 0)
  refine TL.c (Step.cz (ok_math_bits_OnesCount8 (b.getD i 0) (by first | assumption | exact getD_u8 (by assumption) _ | omega))) ?_
  refine TL.ad (c + (ones (b.getD i 0))) ?_
  refine TL.rl [(3, (pI (c + (ones (b.getD i 0)))))] [] ?_
  refine T.region ?_
  refine TL.ad ((i : Int) + 1) ?_
  refine TL.rl [(8, (pI ((i : Int) + 1)))] [] ?_
  refine ⟨(i + 1, c + (ones (b.getD i 0))), by (try dsimp only); (refine ⟨by omega, by omega, by omega, ?_⟩; rw [← hx4, onesSum_drop b (i := i) p_4]; omega), by (dsimp only; omega), Env.le_mk ⟨rfl, rfl, rfl, ?_, ?_, trivial⟩ trivial trivial⟩ <;> exact p_60
 refine T.exit ?_
 refine T.sr [(2, (pI c))] [] ?_
 refine T.ret ?_
 refine ⟨_, (.cons rfl .nil), rfl, _, (.r ?_ .nil)⟩ <;> ((congr 1; rw [← hx4, List.drop_of_length_le p_4]; simp [onesSum]))
theorem ok_impl_readQc (b : List Int) (s : SRS) (l : SLimits) (h0_ : U8s b) (h1_ : b.length ≤ 1048576) : BX Tryz.prog 75 [.rd (.agg [(.int .i64 l.f0), (.int .i64 l.f1), (.int .i64 l.f2), (.int .i64 l.f3), (.int .i64 l.f4)]), .bx] 151 [.rd (.ints .u8 b), .rd (.int .i64 s.f0), .rd (.int .i64 s.f1)] [.rd (.ints .u8 b), .rd (.int .i64 (rdQc l b s).1.f0), .rd (.int .i64 (rdQc l b s).1.f1)] [(true, [.rd (.int .i64 (rdQc l b s).2.f0), .rd (.int .i64 (rdQc l b s).2.f1), .own 5 (.ints .u8 (rdQc l b s).2.f2), .own 5 (.ints .u8 (rdQc l b s).2.f3), .own 24 (.bss (rdQc l b s).2.f4)])] := by
 refine BX.intro Tryz.func75 rfl 55 rfl (le_ok rfl) (le_ok rfl) fun w Z IX pin hp => ?_
 refine T.sr [(2, (.one (.ptr 2 0))), (4, (.one (.ptr 4 0)))] [(2, (46, (c_2 l))), (4, (29, c_46))] ?_
 refine T.sg ?_
 refine TL.rx 1 [(6, (.one (.ptr 800 0)))] [] ?_
 have nn1 := @bf b p_5 s
 refine TL.c (Step.x2 800 (ok_impl_reader__num b s p_5 p_1)) ?_
 refine TL.rx 1 [(8, (.one (.ptr 800 0)))] [] ?_
 have nn2 := @bf b p_5 (aa b s).1
 refine TL.c (Step.x2 800 (ok_impl_reader__num b (aa b s).1 p_5 p_1)) ?_
 refine TL.rx 1 [(10, (.one (.ptr 800 0)))] [] ?_
 have nn3 := rdRaw_len b (aa b (aa b s).1).1 32
 refine TL.c (Step.x2 800 (ok_impl_reader__hash b (aa b (aa b s).1).1 p_5 p_1)) ?_
 refine TL.rl [(5, (.one (.ptr 5 0)))] [(5, (29, [cI (aa b s).2, cI (aa b (aa b s).1).2, .row 4011 [], .nil, .nil]))] ?_
 refine T.seq ?_
 refine T.sr [(17, (pB (decide ((af b (aa b (aa b s).1).1 32).1.f1 ≠ 0))))] [] ?_
 refine T.ci rfl (fun h4 => ?_) (fun h4 => ?_)
 ·refine T.sr [] [(4, (29, [cI (aa b s).2, cI (aa b (aa b s).1).2, .row 4011 [], .nil, .nil]))] ?_
  refine T.ret ?_
  refine ⟨_, _, rfl, rfl, (.cons rfl .nil), rfl, _, (.r rfl (.r ?_ (.r ?_ (.r ?_ (.r ?_ (.o ?_ (.nn ?_ (.nn ?_ .nil))))))))⟩ <;> exact p_19
 refine T.skip (T.seq ?_)
 have nn5 := @getBits_u8 b p_5 (af b (aa b (aa b s).1).1 32).1.f0 l.f0
 have nn6 := getBits_len b (af b (aa b (aa b s).1).1 32).1.f0 l.f0
 refine T.drawX [{ dst := some 20, pv := (.one (.ptr 800 0)) }, { dst := some 21, pv := (.one (.ptr 800 0)) }, { dst := some 22, pv := (.one (.ptr 800 0)) }, { dst := some 23, pv := (.one (.ptr 800 0)) }, { dst := some 24, pv := (.one (.ptr 800 0)) }, { dst := some 25, pv := (pS b) }, { dst := some 26, pv := (.one (.ptr 800 0)) }, { dst := some 27, pv := (.one (.ptr 800 0)) }, { dst := some 28, pv := (.one (.ptr 800 1)) }, { dst := some 29, pv := (pI (af b (aa b (aa b s).1).1 32).1.f0) }, { dst := some 30, pv := (.one (.ptr 2 0)) }, { dst := some 31, pv := (pI l.f0) }, { dst := some 32, pv := (.tup [(false, [.row 1032 []]), (false, (c_63 b l s)), (false, (c_64 b l s))]), rows := [(1032, (5, (.ints .u8 (ai b (af b (aa b (aa b s).1).1 32).1.f0 l.f0).1)))] }, { dst := some 19, pv := (.tup [(false, [.row 1032 []]), (false, (c_63 b l s)), (false, (c_64 b l s))]) }, { dst := some 33, pv := (.one (.row 1032 [])) }, { dst := some 34, pv := (pI (ai b (af b (aa b (aa b s).1).1 32).1.f0 l.f0).2.1) }, { dst := some 35, pv := (pI (ai b (af b (aa b (aa b s).1).1 32).1.f0 l.f0).2.2) }, { dst := some 36, pv := (.one (.ptr 5 3)) }, { box := some (5, (29, (c_67 b s))) }, { dst := some 37, pv := (.one (.ptr 800 0)) }, { dst := some 38, pv := (.one (.ptr 800 1)) }, { box := some (800, (151, [cS b, cI (ai b (af b (aa b (aa b s).1).1 32).1.f0 l.f0).2.1, cI (af b (aa b (aa b s).1).1 32).1.f1])) }, { dst := some 39, pv := (.one (.ptr 800 0)) }, { dst := some 40, pv := (.one (.ptr 800 2)) }, { box := some (800, (151, (c_54 b l s))) }] p_7 p_7 ?_ ?_
 ·refine .sk 12 ?_
  refine .cons (fun E A => OpStep.plain rfl (Step.call (f := 113) (xs := [.tmp 25, .tmp 29, .tmp 31]) (ps := [(pS b), (pI (af b (aa b (aa b s).1).1 32).1.f0), (pI l.f0)]) false (g := .func 113) (t := 32) rfl rfl p_24 rfl p_7 (evs_cons (A.g 25) (evs_cons (A.g 29) (evs_cons (A.g 31) (rfl)))) (.cons (.one (.d _)) (.cons (.one (.d _)) (.cons (.one (.d _)) .nil))) (ok_impl_GetBits b (af b (aa b (aa b s).1).1 32).1.f0 l.f0 p_5 p_1) (.inr rfl) (AtX.frs A) (fun x hx => by have := hp x hx; omega) rfl)) ?_
  refine .sk 12 ?_
  exact .nil _ _
 refine TL.wk [(1, (.one (.ptr 800 0))), (4, (.one (.ptr 4 0))), (5, (.one (.ptr 5 0)))] [(4011, (5, (.ints .u8 (af b (aa b (aa b s).1).1 32).2))), (1032, (5, (.ints .u8 (ai b (af b (aa b (aa b s).1).1 32).1.f0 l.f0).1)))] [(800, (151, (c_54 b l s))), (2, (46, (c_2 l))), (4, (29, c_46)), (5, (29, (c_67 b s)))] ?_
 refine TL.nil (T.seq (T.sg ?_))
 refine TL.rx 2 [(42, (.one (.row 1032 [])))] [] ?_
 have nn7 := bitList_len (ai b (af b (aa b (aa b s).1).1 32).1.f0 l.f0).1
 refine TL.c (Step.call (f := 114) (xs := [.tmp 42]) (ps := [(.one (.row 1032 []))]) false (g := .func 114) rfl rfl (lt_ok rfl) rfl p_7 rfl (.cons (.one (.row rfl rfl rfl rfl)) .nil) (ok_impl_BitsCount (ai b (af b (aa b (aa b s).1).1 32).1.f0 l.f0).1 (by first | assumption | exact fun x hx => by cases hx) p_112) (.inr rfl) rfl (fun x hx => by have := hp x hx; omega) rfl) ?_
 refine TL.rl [(44, (pI 0))] [] ?_
 refine T.block ?_
 refine T.nilrow 5 4 100504 24 29 (.bss []) (c_67 b s) rfl rfl rfl (fun x hx => by have := hp x hx; omega) rfl rfl trivial ?_
 refine T.loop (ι := Nat) (fun xx_ => { tm := [(1, (.one (.ptr 800 0))), (4, (.one (.ptr 4 0))), (5, (.one (.ptr 5 0))), (43, (pI ((bitList (ai b (af b (aa b (aa b s).1).1 32).1.f0 l.f0).1).length : Int))), (44, (pI (xx_ : Int)))], rows := [(4011, (5, (.ints .u8 (af b (aa b (aa b s).1).1 32).2))), (1032, (5, (.ints .u8 (ai b (af b (aa b (aa b s).1).1 32).1.f0 l.f0).1))), (100504, (24, (.bss (av b (⟨(ai b (af b (aa b (aa b s).1).1 32).1.f0 l.f0).2.1, (ai b (af b (aa b (aa b s).1).1 32).1.f0 l.f0).2.2⟩ : SRS) xx_).2)))], boxes := [(800, (151, [cS b, cI (av b (⟨(ai b (af b (aa b (aa b s).1).1 32).1.f0 l.f0).2.1, (ai b (af b (aa b (aa b s).1).1 32).1.f0 l.f0).2.2⟩ : SRS) xx_).1.f0, cI (av b (⟨(ai b (af b (aa b (aa b s).1).1 32).1.f0 l.f0).2.1, (ai b (af b (aa b (aa b s).1).1 32).1.f0 l.f0).2.2⟩ : SRS) xx_).1.f1])), (2, (46, (c_2 l))), (4, (29, c_46)), (5, (29, [cI (aa b s).2, cI (aa b (aa b s).1).2, .row 4011 [], .row 1032 [], .row 100504 []]))] }) (fun xx_ => xx_ ≤ (bitList (ai b (af b (aa b (aa b s).1).1 32).1.f0 l.f0).1).length) (fun xx_ => (bitList (ai b (af b (aa b (aa b s).1).1 32).1.f0 l.f0).1).length - xx_) 0 ?_ ?_ ?_
 · refine Env.le_mk ⟨rfl, rfl, rfl, rfl, ?_, trivial⟩ ⟨rfl, rfl, ?_, trivial⟩ ⟨?_, rfl, rfl, rfl, trivial⟩ <;> exact p_60
 · exact Nat.zero_le _
 intro i hx
 try dsimp only at hx ⊢
 have hl_ := rdTags_len b (⟨(ai b (af b (aa b (aa b s).1).1 32).1.f0 l.f0).2.1, (ai b (af b (aa b (aa b s).1).1 32).1.f0 l.f0).2.2⟩ : SRS) i
 have hz_ : (bitList []).length = 0 := rfl
 have hn_ := bitList_len (ai b (af b (aa b (aa b s).1).1 32).1.f0 l.f0).1
 refine T.sr [(45, (pB (decide ((i : Int) < ((bitList (ai b (af b (aa b (aa b s).1).1 32).1.f0 l.f0).1).length : Int)))))] [] ?_
 refine T.seq ?_
 refine T.ci rfl (fun h8 => ?_) (fun h8 => ?_)
 ·refine T.skip (T.seq (T.block ?_))
  have nn9 := rdRaw_len b (av b (⟨(ai b (af b (aa b (aa b s).1).1 32).1.f0 l.f0).2.1, (ai b (af b (aa b (aa b s).1).1 32).1.f0 l.f0).2.2⟩ : SRS) i).1 32
  refine T.drawX [{ dst := some 46, pv := (.one (.ptr 5 4)) }, { dst := some 47, pv := (.one (.row 100504 [])) }, { dst := some 48, pv := (.one (.ptr 800 0)) }, { dst := some 49, pv := (.one (.row 4049 [])), rows := [(4049, (5, (.ints .u8 (af b (av b (⟨(ai b (af b (aa b (aa b s).1).1 32).1.f0 l.f0).2.1, (ai b (af b (aa b (aa b s).1).1 32).1.f0 l.f0).2.2⟩ : SRS) i).1 32).2)))], box := some (800, (151, (c_17 b i l s))) }, { dst := some 50, pv := (.one (.row 50 [])), rows := [(50, (24, (.bss [(af b (av b (⟨(ai b (af b (aa b (aa b s).1).1 32).1.f0 l.f0).2.1, (ai b (af b (aa b (aa b s).1).1 32).1.f0 l.f0).2.2⟩ : SRS) i).1 32).2])))], dead := [4049] }, { dst := some 51, pv := (.one (.row 500051 [])), rows := [(500051, (24, (.bss ((av b (⟨(ai b (af b (aa b (aa b s).1).1 32).1.f0 l.f0).2.1, (ai b (af b (aa b (aa b s).1).1 32).1.f0 l.f0).2.2⟩ : SRS) i).2 ++ [(af b (av b (⟨(ai b (af b (aa b (aa b s).1).1 32).1.f0 l.f0).2.1, (ai b (af b (aa b (aa b s).1).1 32).1.f0 l.f0).2.2⟩ : SRS) i).1 32).2]))))], dead := [100504, 50] }, { dst := some 52, pv := (.one (.ptr 5 4)) }, { box := some (5, (29, [cI (aa b s).2, cI (aa b (aa b s).1).2, .row 4011 [], .row 1032 [], .row 500051 []])) }] p_7 p_7 ?_ ?_
  ·refine .sk 3 ?_
   refine .cons (fun E A => OpStep.plain rfl (Step.callXX2 (b := 800) (xs := [.tmp 48]) (ps := [(.one (.ptr 800 0))]) (bps := (c_44 b i l s)) (ss := []) (g := .func 111) (t := 49) (ok_impl_reader__hash b (av b (⟨(ai b (af b (aa b (aa b s).1).1 32).1.f0 l.f0).2.1, (ai b (af b (aa b (aa b s).1).1 32).1.f0 l.f0).2.2⟩ : SRS) i).1 p_5 p_1) rfl rfl p_24 rfl p_7 (evs_cons (A.g 48) (rfl)) (.cons (.bx) .nil) (A.b 800 (x := (151, _))) (.rd (.rd (.rd .nil))) rfl (handX_fresh (fun x_ hx_ => A.fresh x_ (by exact hx_))) (fun x hx => by have := hp x hx; omega) rfl p_107)) ?_
   refine .cons (fun E A => OpStep.plain rfl (Step.litX (e := 24) (z := 1) (by_ := 24) (xs := [.tmp 49]) (pss := [[.row 4049 []]]) (es := [(.ints .u8 (af b (av b (⟨(ai b (af b (aa b (aa b s).1).1 32).1.f0 l.f0).2.1, (ai b (af b (aa b (aa b s).1).1 32).1.f0 l.f0).2.2⟩ : SRS) i).1 32).2)]) (ss := [4049]) (d := (.bss [(af b (av b (⟨(ai b (af b (aa b (aa b s).1).1 32).1.f0 l.f0).2.1, (ai b (af b (aa b (aa b s).1).1 32).1.f0 l.f0).2.2⟩ : SRS) i).1 32).2])) (t := 50) rfl rfl p_24 p_7 rfl rfl (.cons (by exact (congrArg PV.flat (A.g 49 (p := (.one (.row 4049 []))))).trans rfl) .nil) p_105 (le_ok rfl) (le_ok rfl) A.fn (.row (A.r 4049 (x := (5, _))) p_105 .nil) (A.fresh _ (List.mem_singleton.2 rfl)) p_105 (fun x_ hx_ => by have := hp x_ hx_; omega) rfl trivial rfl rfl)) ?_
   refine .cons (fun E A => OpStep.plain rfl (Step.appendX (e := 24) (z := 1) (by_ := 24) (d := (.bss (av b (⟨(ai b (af b (aa b (aa b s).1).1 32).1.f0 l.f0).2.1, (ai b (af b (aa b (aa b s).1).1 32).1.f0 l.f0).2.2⟩ : SRS) i).2)) (dy := (.bss [(af b (av b (⟨(ai b (af b (aa b (aa b s).1).1 32).1.f0 l.f0).2.1, (ai b (af b (aa b (aa b s).1).1 32).1.f0 l.f0).2.2⟩ : SRS) i).1 32).2])) (d' := (.bss ((av b (⟨(ai b (af b (aa b (aa b s).1).1 32).1.f0 l.f0).2.1, (ai b (af b (aa b (aa b s).1).1 32).1.f0 l.f0).2.2⟩ : SRS) i).2 ++ [(af b (av b (⟨(ai b (af b (aa b (aa b s).1).1 32).1.f0 l.f0).2.1, (ai b (af b (aa b (aa b s).1).1 32).1.f0 l.f0).2.2⟩ : SRS) i).1 32).2]))) (ss := [50]) 500051 (t := 51) rfl rfl p_24 p_7 (A.g 47) (A.r 100504 (x := (24, _))) rfl (lt_ok rfl) (A.g 50) (.move (A.r 50 (x := (24, _)))) p_105 rfl p_21 p_21 (fun x_ hx_ => by have := hp x_ hx_; omega) (A.fresh _ (List.mem_singleton.2 rfl)) p_105 (fun x_ hx_ => by have := hp x_ hx_; omega))) ?_
   refine .sk 2 ?_
   exact .nil _ _
  refine TL.wk [(1, (.one (.ptr 800 0))), (4, (.one (.ptr 4 0))), (5, (.one (.ptr 5 0))), (43, (pI ((bitList (ai b (af b (aa b (aa b s).1).1 32).1.f0 l.f0).1).length : Int))), (44, (pI (i : Int)))] [(4011, (5, (.ints .u8 (af b (aa b (aa b s).1).1 32).2))), (1032, (5, (.ints .u8 (ai b (af b (aa b (aa b s).1).1 32).1.f0 l.f0).1))), (500051, (24, (.bss ((av b (⟨(ai b (af b (aa b (aa b s).1).1 32).1.f0 l.f0).2.1, (ai b (af b (aa b (aa b s).1).1 32).1.f0 l.f0).2.2⟩ : SRS) i).2 ++ [(af b (av b (⟨(ai b (af b (aa b (aa b s).1).1 32).1.f0 l.f0).2.1, (ai b (af b (aa b (aa b s).1).1 32).1.f0 l.f0).2.2⟩ : SRS) i).1 32).2]))))] [(800, (151, (c_17 b i l s))), (2, (46, (c_2 l))), (4, (29, c_46)), (5, (29, [cI (aa b s).2, cI (aa b (aa b s).1).2, .row 4011 [], .row 1032 [], .row 500051 []]))] ?_
  refine TL.ren 500051 100504 rfl (fun x hx => by have := hp x hx; omega) ?_
  refine TL.nil (T.region ?_)
  refine TL.ad ((i : Int) + 1) ?_
  refine TL.rl [(44, (pI ((i : Int) + 1)))] [] ?_
  refine ⟨i + 1, by omega, by first | omega | (dsimp only; omega), Env.le_mk ⟨rfl, rfl, rfl, rfl, ?_, trivial⟩ ⟨rfl, rfl, ?_, trivial⟩ ⟨?_, rfl, rfl, rfl, trivial⟩⟩ <;> exact p_60
 refine T.exit ?_
 refine T.sr [] [(4, (29, [cI (aa b s).2, cI (aa b (aa b s).1).2, .row 4011 [], .row 1032 [], .row 100504 []]))] ?_
 refine T.ret ?_
 exact p_154
theorem ok_impl_Qc_ (l : SLimits) (b : List Int) (a : Int) (h0_ : U8s b) (h1_ : b.length ≤ 1048576) : RO Tryz.prog 74 [.agg l.cells, .one (.ints .u8 b), .one (.int .i64 a), .one (.fn 75)] [(true, [.rd (.int .i64 (getQc l b a).1.f0), .rd (.int .i64 (getQc l b a).1.f1), .own 5 (.ints .u8 (getQc l b a).1.f2), .own 5 (.ints .u8 (getQc l b a).1.f3), .own 24 (.bss (getQc l b a).1.f4)]), (false, [.rd (.int .i64 (getQc l b a).2.1)]), (false, [.rd (.int .i64 (getQc l b a).2.2)])] := by
 refine RO.intro Tryz.func74 rfl 41 rfl (le_ok rfl) fun w Z => ?_
 refine T.bnd 1 0 rfl rfl fun hb_1_0 => ?_
 simp only [D.size, List.length_map] at hb_1_0
 refine T.sr [(4, (.one (.ptr 4 0))), (8, (.one (.ptr 8 0))), (9, (pI 0)), (10, (pI 0))] [(4, (46, (c_2 l))), (8, (29, c_46))] ?_
 refine T.sr [(11, (.one (.ptr 11 0)))] [(11, (29, c_46))] ?_
 refine T.seq (T.sg ?_)
 refine TL.rx 1 [(14, (.agg (c_2 l)))] [] ?_
 refine TL.c (Step.cz (ok_impl_LimitsOk l)) ?_
 refine TL.rl [(16, (pB (!(limOk l))))] [] ?_
 refine T.cn rfl (fun h1 => ?_) (fun h1 => ?_)
 ·refine T.sr [(9, (pI 0)), (10, (pI 5))] [(8, (29, c_46))] ?_
  refine T.ret ?_
  exact p_150
 refine T.skip ?_
 refine T.sr [(12, (.one (.ptr 21 0)))] [(21, (151, [cS b, cI a, cI 0]))] ?_
 refine T.sg ?_
 refine TL.rx 3 [(22, (.one (.d (.fn 75)))), (23, (.agg (c_2 l))), (24, (.one (.ptr 21 0)))] [] ?_
 have nn2 := @rdQc_sm l b (⟨a, 0⟩ : SRS) p_53
 have nn3 := @rdQc_ok l b (⟨a, 0⟩ : SRS) p_5
 refine TL.c (Step.x2 21 (ok_impl_readQc b (⟨a, 0⟩ : SRS) l p_5 p_1)) ?_
 refine TL.rl [(13, (.one (.ptr 13 0)))] [(13, (29, (c_43 a b l)))] ?_
 refine T.seq ?_
 refine T.sr [(30, (pB (decide ((rdQc l b (⟨a, 0⟩ : SRS)).1.f1 ≠ 0))))] [] ?_
 refine T.ci rfl (fun h4 => ?_) (fun h4 => ?_)
 ·refine T.seq ?_
  refine T.drawX [{ dst := some 31, pv := (.agg c_46) }, { dst := some 32, pv := (.one (.ptr 21 0)) }, { dst := some 33, pv := (.one (.ptr 21 0)) }, { dst := some 34, pv := (.one (.ptr 21 2)) }, { dst := some 35, pv := (pI (rdQc l b (⟨a, 0⟩ : SRS)).1.f1) }, { box := some (8, (29, c_46)) }, { dst := some 9, pv := (pI 0) }, { dst := some 10, pv := (pI (rdQc l b (⟨a, 0⟩ : SRS)).1.f1) }] p_7 p_7 ?_ ?_
  ·refine .sk 8 ?_
   exact .nil _ _
  refine TL.wk [(8, (.one (.ptr 8 0))), (9, (pI 0)), (10, (pI (rdQc l b (⟨a, 0⟩ : SRS)).1.f1)), (12, (.one (.ptr 21 0))), (13, (.one (.ptr 13 0)))] [(6025, (5, (.ints .u8 (rdQc l b (⟨a, 0⟩ : SRS)).2.f2))), (7025, (5, (.ints .u8 (rdQc l b (⟨a, 0⟩ : SRS)).2.f3))), (8025, (24, (.bss (rdQc l b (⟨a, 0⟩ : SRS)).2.f4)))] [(4, (46, (c_2 l))), (8, (29, c_46)), (11, (29, c_46)), (21, (151, [cS b, cI (rdQc l b (⟨a, 0⟩ : SRS)).1.f0, cI (rdQc l b (⟨a, 0⟩ : SRS)).1.f1])), (13, (29, (c_43 a b l)))] ?_
  refine TL.nil (T.ret ?_)
  exact p_150
 refine T.skip (T.seq ?_)
 refine T.drawX [{ dst := some 36, pv := (.agg (c_43 a b l)) }, { dst := some 37, pv := (.one (.ptr 21 0)) }, { dst := some 38, pv := (.one (.ptr 21 0)) }, { dst := some 39, pv := (.one (.ptr 21 1)) }, { dst := some 40, pv := (pI (rdQc l b (⟨a, 0⟩ : SRS)).1.f0) }, { box := some (8, (29, (c_43 a b l))) }, { dst := some 9, pv := (pI (rdQc l b (⟨a, 0⟩ : SRS)).1.f0) }, { dst := some 10, pv := (pI 0) }] p_7 p_7 ?_ ?_
 ·refine .sk 8 ?_
  exact .nil _ _
 refine TL.wk [(8, (.one (.ptr 8 0))), (9, (pI (rdQc l b (⟨a, 0⟩ : SRS)).1.f0)), (10, (pI 0))] [(6025, (5, (.ints .u8 (rdQc l b (⟨a, 0⟩ : SRS)).2.f2))), (7025, (5, (.ints .u8 (rdQc l b (⟨a, 0⟩ : SRS)).2.f3))), (8025, (24, (.bss (rdQc l b (⟨a, 0⟩ : SRS)).2.f4)))] [(4, (46, (c_2 l))), (8, (29, (c_43 a b l))), (11, (29, c_46)), (21, (151, [cS b, cI (rdQc l b (⟨a, 0⟩ : SRS)).1.f0, cI (rdQc l b (⟨a, 0⟩ : SRS)).1.f1])), (13, (29, (c_43 a b l)))] ?_
 refine TL.nil (T.ret ?_)
 refine ⟨_, (.cons rfl (.cons rfl (.cons rfl .nil))), rfl, _, (.r ?_ (.r ?_ (.o ?_ (.o ?_ (.o ?_ (.r ?_ (.r ?_ .nil)))))))⟩ <;> exact p_32
theorem ok_impl_GetQc (l : SLimits) (b : List Int) (a : Int) (h0_ : U8s b) (h1_ : b.length ≤ 1048576) : RO Tryz.prog 29 [.agg l.cells, .one (.ints .u8 b), .one (.int .i64 a)] [(true, [.rd (.int .i64 (getQc l b a).1.f0), .rd (.int .i64 (getQc l b a).1.f1), .own 5 (.ints .u8 (getQc l b a).1.f2), .own 5 (.ints .u8 (getQc l b a).1.f3), .own 24 (.bss (getQc l b a).1.f4)]), (false, [.rd (.int .i64 (getQc l b a).2.1)]), (false, [.rd (.int .i64 (getQc l b a).2.2)])] := by
 refine RO.intro Tryz.func29 rfl 16 rfl (le_ok rfl) fun w Z => ?_
 refine T.bnd 1 0 rfl rfl fun hb_1_0 => ?_
 simp only [D.size, List.length_map] at hb_1_0
 refine T.sr [(3, (.one (.ptr 3 0))), (6, (.one (.ptr 6 0))), (7, (pI 0)), (8, (pI 0))] [(3, (46, (c_2 l))), (6, (29, c_46))] ?_
 refine T.sg ?_
 refine TL.rx 3 [(9, (.agg (c_2 l))), (10, (pS b)), (11, (pI a))] [] ?_
 have nn1 := @getQc_sm l b a p_53
 refine TL.c (Step.cz (ok_impl_Qc_ l b a p_5 p_1)) ?_
 refine TL.rl [(7, (pI (getQc l b a).2.1)), (8, (pI (getQc l b a).2.2))] [(6, (29, [cI (getQc l b a).1.f0, cI (getQc l b a).1.f1, .row 3012 [], .row 4012 [], .row 5012 []]))] ?_
 refine T.ret ?_
 refine ⟨_, (.cons rfl (.cons rfl (.cons rfl .nil))), rfl, _, (.r rfl (.r rfl (.o ?_ (.o ?_ (.o ?_ (.r rfl (.r rfl .nil)))))))⟩ <;> (rfl)
theorem ok_impl_SameBytes (a : List Int) (b : List Int) (h0_ : U8s a) (h1_ : U8s b) : RO Tryz.prog 118 [.one (.ints .u8 a), .one (.ints .u8 b)] [(false, [.rd (.bool (decide (a = b)))])] := by
 refine RO.intro Tryz.func118 rfl 10 rfl (le_ok rfl) fun w Z => ?_
 refine T.bnd 0 0 rfl rfl fun hb_0_0 => ?_
 simp only [D.size, List.length_map] at hb_0_0
 refine T.bnd 1 0 rfl rfl fun hb_1_0 => ?_
 simp only [D.size, List.length_map] at hb_1_0
 refine T.sr [(4, (pB false))] [] ?_
 refine T.sg ?_
 refine TL.rx 1 [(5, (pS a))] [] ?_
 refine TL.c (Step.toStr (e := 5) (xs := a) rfl rfl (lt_ok rfl) p_7 p_7 p_7 rfl rfl) ?_
 refine TL.rx 1 [(7, (pS b))] [] ?_
 refine TL.c (Step.toStr (e := 5) (xs := b) rfl rfl (lt_ok rfl) p_7 p_7 p_7 rfl rfl) ?_
 refine TL.rl [(4, (pB ((strOfNums a).toList == (strOfNums b).toList)))] [] ?_
 refine T.ret ?_
 exact p_178
theorem ok_impl_Head__matches (h : SHead) (h0_ : h.ok) : RO Tryz.prog 116 [.agg h.cells] [(false, [.rd (.bool (headFits h))])] := by
 refine RO.intro Tryz.func116 rfl 26 rfl (le_ok rfl) fun w Z => ?_
 obtain ⟨o0, o1, o2, o3, o4, o5, o6, o7, o8, o9⟩ := h0_
 refine T.sr [(1, (.one (.ptr 1 0))), (2, (pB false))] [(1, (31, [cI h.f0, cI h.f1, cI h.f2, cS h.f3, cS h.f4, cI h.f5.f0, cI h.f5.f1, cS h.f5.f2, cS h.f5.f3, .d (.bss h.f5.f4)]))] ?_
 refine T.sg ?_
 refine TL.rx 7 [(9, (pB (decide (h.f5.f0 < h.f0))))] [] ?_
 rcases Bool.eq_false_or_eq_true (decide (h.f5.f0 < h.f0)) with hb1 | hb1
 ·refine TL.known 9 hb1 rfl ?_
  refine TL.rx 5 [(12, (pI h.f5.f1)), (14, (pI h.f1))] [] ?_
  refine TL.gy 9 (Step.bin (r := .int .i64 (IntKind.i64.wrap (h.f1 - 1))) rfl rfl (lt_ok rfl) rfl rfl (Bin.sub (a := h.f1) (b := 1) (rfl))) ?_
  refine TL.rx 3 [(18, (pB (decide (h.f5.f1 = (IntKind.i64.wrap (h.f1 - 1))))))] [] ?_
  rcases Bool.eq_false_or_eq_true (decide (h.f5.f1 = (IntKind.i64.wrap (h.f1 - 1)))) with hb2 | hb2
  ·refine TL.known 18 hb2 rfl ?_
   refine TL.rx 5 [(21, (pS h.f5.f2)), (23, (pS h.f3))] [] ?_
   refine TL.gy 18 (Step.cz (ok_impl_SameBytes h.f5.f2 h.f3 p_53 p_53)) ?_
   refine TL.rl [(2, (pB (decide (h.f5.f2 = h.f3))))] [] ?_
   refine T.ret ?_
   exact p_141
  refine TL.known 18 hb2 rfl ?_
  refine TL.rl [(2, (pB false))] [] ?_
  refine T.ret ?_
  exact p_141
 refine TL.known 9 hb1 rfl ?_
 refine TL.rl [(2, (pB false))] [] ?_
 refine T.ret ?_
 exact p_141
theorem ok_impl_readHead (b : List Int) (s : SRS) (l : SLimits) (h0_ : U8s b) (h1_ : b.length ≤ 1048576) : BX Tryz.prog 77 [.rd (.agg [(.int .i64 l.f0), (.int .i64 l.f1), (.int .i64 l.f2), (.int .i64 l.f3), (.int .i64 l.f4)]), .bx] 151 [.rd (.ints .u8 b), .rd (.int .i64 s.f0), .rd (.int .i64 s.f1)] [.rd (.ints .u8 b), .rd (.int .i64 (ag l b s).1.f0), .rd (.int .i64 (ag l b s).1.f1)] [(true, [.rd (.int .i64 (ag l b s).2.f0), .rd (.int .i64 (ag l b s).2.f1), .rd (.int .i64 (ag l b s).2.f2), .own 5 (.ints .u8 (ag l b s).2.f3), .own 5 (.ints .u8 (ag l b s).2.f4), .rd (.int .i64 (ag l b s).2.f5.f0), .rd (.int .i64 (ag l b s).2.f5.f1), .own 5 (.ints .u8 (ag l b s).2.f5.f2), .own 5 (.ints .u8 (ag l b s).2.f5.f3), .own 24 (.bss (ag l b s).2.f5.f4)])] := by
 refine BX.intro Tryz.func77 rfl 36 rfl (le_ok rfl) (le_ok rfl) fun w Z IX pin hp => ?_
 refine T.sr [(2, (.one (.ptr 2 0))), (4, (.one (.ptr 4 0)))] [(2, (46, (c_2 l))), (4, (31, c_45))] ?_
 refine T.sg ?_
 refine TL.rx 1 [(6, (.one (.ptr 800 0)))] [] ?_
 have nn1 := @bf b p_5 s
 refine TL.c (Step.x2 800 (ok_impl_reader__num b s p_5 p_1)) ?_
 refine TL.rx 1 [(8, (.one (.ptr 800 0)))] [] ?_
 have nn2 := @bf b p_5 (aa b s).1
 refine TL.c (Step.x2 800 (ok_impl_reader__num b (aa b s).1 p_5 p_1)) ?_
 refine TL.rl [(5, (.one (.ptr 5 0)))] [(5, (31, [cI (aa b s).2, cI (aa b (aa b s).1).2, cI 0, .nil, .nil, cI 0, cI 0, .nil, .nil, .nil]))] ?_
 refine T.sg ?_
 refine TL.rx 4 [(11, (.one (.ptr 800 0))), (14, (pB (decide ((aa b (aa b s).1).2 ≠ 0))))] [] ?_
 refine TL.c (Step.x2 800 (ok_impl_reader__must b (aa b (aa b s).1).1 (decide ((aa b (aa b s).1).2 ≠ 0)) 5 p_5 p_1)) ?_
 refine TL.nil (T.sg ?_)
 refine TL.rx 3 [(16, (.one (.ptr 800 0))), (18, (pI l.f0))] [] ?_
 have nn3 := @bf b p_5 (ae (aa b (aa b s).1).1 (decide ((aa b (aa b s).1).2 ≠ 0)) 5)
 refine TL.c (Step.x2 800 (ok_impl_reader__below b (ae (aa b (aa b s).1).1 (decide ((aa b (aa b s).1).2 ≠ 0)) 5) l.f0 5 p_5 p_1)) ?_
 refine TL.rl [] [(5, (31, [cI (aa b s).2, cI (aa b (aa b s).1).2, cI (am b (ae (aa b (aa b s).1).1 (decide ((aa b (aa b s).1).2 ≠ 0)) 5) l.f0 5).2, .nil, .nil, cI 0, cI 0, .nil, .nil, .nil]))] ?_
 refine T.sg ?_
 refine TL.rx 1 [(21, (.one (.ptr 800 0)))] [] ?_
 have nn4 := rdRaw_len b (am b (ae (aa b (aa b s).1).1 (decide ((aa b (aa b s).1).2 ≠ 0)) 5) l.f0 5).1 32
 refine TL.c (Step.x2 800 (ok_impl_reader__hash b (am b (ae (aa b (aa b s).1).1 (decide ((aa b (aa b s).1).2 ≠ 0)) 5) l.f0 5).1 p_5 p_1)) ?_
 refine TL.rx 1 [(23, (.one (.ptr 800 0)))] [] ?_
 have nn5 := rdRaw_len b (af b (am b (ae (aa b (aa b s).1).1 (decide ((aa b (aa b s).1).2 ≠ 0)) 5) l.f0 5).1 32).1 32
 refine TL.c (Step.x2 800 (ok_impl_reader__hash b (af b (am b (ae (aa b (aa b s).1).1 (decide ((aa b (aa b s).1).2 ≠ 0)) 5) l.f0 5).1 32).1 p_5 p_1)) ?_
 refine TL.rl [] [(5, (31, [cI (aa b s).2, cI (aa b (aa b s).1).2, cI (am b (ae (aa b (aa b s).1).1 (decide ((aa b (aa b s).1).2 ≠ 0)) 5) l.f0 5).2, .row 4022 [], .row 4024 [], cI 0, cI 0, .nil, .nil, .nil]))] ?_
 refine T.sg ?_
 refine TL.rx 2 [(27, (.agg (c_2 l))), (28, (.one (.ptr 800 0)))] [] ?_
 have nn6 := @rdQc_sm l b (af b (af b (am b (ae (aa b (aa b s).1).1 (decide ((aa b (aa b s).1).2 ≠ 0)) 5) l.f0 5).1 32).1 32).1 p_53
 have nn7 := @rdQc_ok l b (af b (af b (am b (ae (aa b (aa b s).1).1 (decide ((aa b (aa b s).1).2 ≠ 0)) 5) l.f0 5).1 32).1 32).1 p_5
 refine TL.c (Step.x2 800 (ok_impl_readQc b (af b (af b (am b (ae (aa b (aa b s).1).1 (decide ((aa b (aa b s).1).2 ≠ 0)) 5) l.f0 5).1 32).1 32).1 l p_5 p_1)) ?_
 refine TL.rl [] [(5, (31, (c_11 b l s)))] ?_
 refine T.sg ?_
 refine TL.rx 2 [(31, (.one (.ptr 800 0))), (32, (.agg (c_11 b l s)))] [] ?_
 refine TL.c (Step.call (f := 116) (xs := [.tmp 32]) (ps := [(.agg (c_11 b l s))]) false (g := .func 116) rfl rfl (lt_ok rfl) rfl p_7 rfl (.cons (.agg (.cons (.d _) (.cons (.d _) (.cons (.d _) (.cons (.row rfl rfl rfl rfl) (.cons (.row rfl rfl rfl rfl) (.cons (.d _) (.cons (.d _) (.cons (.row rfl rfl rfl rfl) (.cons (.row rfl rfl rfl rfl) (.cons (.row rfl rfl rfl rfl) .nil))))))))))) .nil) (ok_impl_Head__matches (⟨(aa b s).2, (aa b (aa b s).1).2, (am b (ae (aa b (aa b s).1).1 (decide ((aa b (aa b s).1).2 ≠ 0)) 5) l.f0 5).2, (af b (am b (ae (aa b (aa b s).1).1 (decide ((aa b (aa b s).1).2 ≠ 0)) 5) l.f0 5).1 32).2, (af b (af b (am b (ae (aa b (aa b s).1).1 (decide ((aa b (aa b s).1).2 ≠ 0)) 5) l.f0 5).1 32).1 32).2, (rdQc l b (af b (af b (am b (ae (aa b (aa b s).1).1 (decide ((aa b (aa b s).1).2 ≠ 0)) 5) l.f0 5).1 32).1 32).1).2⟩ : SHead) (by first | assumption | exact rdHead_ok (l := l) (s := s) h0_)) (.inr rfl) rfl (fun x hx => by have := hp x hx; omega) rfl) ?_
 refine TL.c (Step.x2 800 (ok_impl_reader__must b (rdQc l b (af b (af b (am b (ae (aa b (aa b s).1).1 (decide ((aa b (aa b s).1).2 ≠ 0)) 5) l.f0 5).1 32).1 32).1).1 (headFits (⟨(aa b s).2, (aa b (aa b s).1).2, (am b (ae (aa b (aa b s).1).1 (decide ((aa b (aa b s).1).2 ≠ 0)) 5) l.f0 5).2, (af b (am b (ae (aa b (aa b s).1).1 (decide ((aa b (aa b s).1).2 ≠ 0)) 5) l.f0 5).1 32).2, (af b (af b (am b (ae (aa b (aa b s).1).1 (decide ((aa b (aa b s).1).2 ≠ 0)) 5) l.f0 5).1 32).1 32).2, (rdQc l b (af b (af b (am b (ae (aa b (aa b s).1).1 (decide ((aa b (aa b s).1).2 ≠ 0)) 5) l.f0 5).1 32).1 32).1).2⟩ : SHead)) 6 p_5 p_1)) ?_
 refine TL.nil ?_
 refine T.sr [] [(4, (31, (c_11 b l s)))] ?_
 refine T.ret ?_
 exact p_145
theorem ok_impl_Head_ (l : SLimits) (b : List Int) (a : Int) (h0_ : U8s b) (h1_ : b.length ≤ 1048576) : RO Tryz.prog 76 [.agg l.cells, .one (.ints .u8 b), .one (.int .i64 a), .one (.fn 77)] [(true, [.rd (.int .i64 (bc l b a).1.f0), .rd (.int .i64 (bc l b a).1.f1), .rd (.int .i64 (bc l b a).1.f2), .own 5 (.ints .u8 (bc l b a).1.f3), .own 5 (.ints .u8 (bc l b a).1.f4), .rd (.int .i64 (bc l b a).1.f5.f0), .rd (.int .i64 (bc l b a).1.f5.f1), .own 5 (.ints .u8 (bc l b a).1.f5.f2), .own 5 (.ints .u8 (bc l b a).1.f5.f3), .own 24 (.bss (bc l b a).1.f5.f4)]), (false, [.rd (.int .i64 (bc l b a).2.1)]), (false, [.rd (.int .i64 (bc l b a).2.2)])] := by
 refine RO.intro Tryz.func76 rfl 41 rfl (le_ok rfl) fun w Z => ?_
 refine T.bnd 1 0 rfl rfl fun hb_1_0 => ?_
 simp only [D.size, List.length_map] at hb_1_0
 refine T.sr [(4, (.one (.ptr 4 0))), (8, (.one (.ptr 8 0))), (9, (pI 0)), (10, (pI 0))] [(4, (46, (c_2 l))), (8, (31, c_45))] ?_
 refine T.sr [(11, (.one (.ptr 11 0)))] [(11, (31, c_45))] ?_
 refine T.seq (T.sg ?_)
 refine TL.rx 1 [(14, (.agg (c_2 l)))] [] ?_
 refine TL.c (Step.cz (ok_impl_LimitsOk l)) ?_
 refine TL.rl [(16, (pB (!(limOk l))))] [] ?_
 refine T.cn rfl (fun h1 => ?_) (fun h1 => ?_)
 ·refine T.sr [(9, (pI 0)), (10, (pI 5))] [(8, (31, c_45))] ?_
  refine T.ret ?_
  exact p_144
 refine T.skip ?_
 refine T.sr [(12, (.one (.ptr 21 0)))] [(21, (151, [cS b, cI a, cI 0]))] ?_
 refine T.sg ?_
 refine TL.rx 3 [(22, (.one (.d (.fn 77)))), (23, (.agg (c_2 l))), (24, (.one (.ptr 21 0)))] [] ?_
 have nn2 := @rdHead_sm l b (⟨a, 0⟩ : SRS) p_53
 have nn3 := @rdHead_ok l b (⟨a, 0⟩ : SRS) p_5
 refine TL.c (Step.x2 21 (ok_impl_readHead b (⟨a, 0⟩ : SRS) l p_5 p_1)) ?_
 refine TL.rl [(13, (.one (.ptr 13 0)))] [(13, (31, (c_15 a b l)))] ?_
 refine T.seq ?_
 refine T.sr [(30, (pB (decide ((ag l b (⟨a, 0⟩ : SRS)).1.f1 ≠ 0))))] [] ?_
 refine T.ci rfl (fun h4 => ?_) (fun h4 => ?_)
 ·refine T.seq ?_
  refine T.drawX [{ dst := some 31, pv := (.agg c_45) }, { dst := some 32, pv := (.one (.ptr 21 0)) }, { dst := some 33, pv := (.one (.ptr 21 0)) }, { dst := some 34, pv := (.one (.ptr 21 2)) }, { dst := some 35, pv := (pI (ag l b (⟨a, 0⟩ : SRS)).1.f1) }, { box := some (8, (31, c_45)) }, { dst := some 9, pv := (pI 0) }, { dst := some 10, pv := (pI (ag l b (⟨a, 0⟩ : SRS)).1.f1) }] p_7 p_7 ?_ ?_
  ·refine .sk 8 ?_
   exact .nil _ _
  refine TL.wk [(8, (.one (.ptr 8 0))), (9, (pI 0)), (10, (pI (ag l b (⟨a, 0⟩ : SRS)).1.f1)), (12, (.one (.ptr 21 0))), (13, (.one (.ptr 13 0)))] [(7025, (5, (.ints .u8 (ag l b (⟨a, 0⟩ : SRS)).2.f3))), (8025, (5, (.ints .u8 (ag l b (⟨a, 0⟩ : SRS)).2.f4))), (11025, (5, (.ints .u8 (ag l b (⟨a, 0⟩ : SRS)).2.f5.f2))), (12025, (5, (.ints .u8 (ag l b (⟨a, 0⟩ : SRS)).2.f5.f3))), (13025, (24, (.bss (ag l b (⟨a, 0⟩ : SRS)).2.f5.f4)))] [(4, (46, (c_2 l))), (8, (31, c_45)), (11, (31, c_45)), (21, (151, [cS b, cI (ag l b (⟨a, 0⟩ : SRS)).1.f0, cI (ag l b (⟨a, 0⟩ : SRS)).1.f1])), (13, (31, (c_15 a b l)))] ?_
  refine TL.nil (T.ret ?_)
  exact p_144
 refine T.skip (T.seq ?_)
 refine T.drawX [{ dst := some 36, pv := (.agg (c_15 a b l)) }, { dst := some 37, pv := (.one (.ptr 21 0)) }, { dst := some 38, pv := (.one (.ptr 21 0)) }, { dst := some 39, pv := (.one (.ptr 21 1)) }, { dst := some 40, pv := (pI (ag l b (⟨a, 0⟩ : SRS)).1.f0) }, { box := some (8, (31, (c_15 a b l))) }, { dst := some 9, pv := (pI (ag l b (⟨a, 0⟩ : SRS)).1.f0) }, { dst := some 10, pv := (pI 0) }] p_7 p_7 ?_ ?_
 ·refine .sk 8 ?_
  exact .nil _ _
 refine TL.wk [(8, (.one (.ptr 8 0))), (9, (pI (ag l b (⟨a, 0⟩ : SRS)).1.f0)), (10, (pI 0))] [(7025, (5, (.ints .u8 (ag l b (⟨a, 0⟩ : SRS)).2.f3))), (8025, (5, (.ints .u8 (ag l b (⟨a, 0⟩ : SRS)).2.f4))), (11025, (5, (.ints .u8 (ag l b (⟨a, 0⟩ : SRS)).2.f5.f2))), (12025, (5, (.ints .u8 (ag l b (⟨a, 0⟩ : SRS)).2.f5.f3))), (13025, (24, (.bss (ag l b (⟨a, 0⟩ : SRS)).2.f5.f4)))] [(4, (46, (c_2 l))), (8, (31, (c_15 a b l))), (11, (31, c_45)), (21, (151, [cS b, cI (ag l b (⟨a, 0⟩ : SRS)).1.f0, cI (ag l b (⟨a, 0⟩ : SRS)).1.f1])), (13, (31, (c_15 a b l)))] ?_
 refine TL.nil (T.ret ?_)
 refine ⟨_, (.cons rfl (.cons rfl (.cons rfl .nil))), rfl, _, (.r ?_ (.r ?_ (.r ?_ (.o ?_ (.o ?_ (.r ?_ (.r ?_ (.o ?_ (.o ?_ (.o ?_ (.r ?_ (.r ?_ .nil))))))))))))⟩ <;> exact p_29
theorem ok_impl_GetHead (l : SLimits) (b : List Int) (a : Int) (h0_ : U8s b) (h1_ : b.length ≤ 1048576) : RO Tryz.prog 30 [.agg l.cells, .one (.ints .u8 b), .one (.int .i64 a)] [(true, [.rd (.int .i64 (bc l b a).1.f0), .rd (.int .i64 (bc l b a).1.f1), .rd (.int .i64 (bc l b a).1.f2), .own 5 (.ints .u8 (bc l b a).1.f3), .own 5 (.ints .u8 (bc l b a).1.f4), .rd (.int .i64 (bc l b a).1.f5.f0), .rd (.int .i64 (bc l b a).1.f5.f1), .own 5 (.ints .u8 (bc l b a).1.f5.f2), .own 5 (.ints .u8 (bc l b a).1.f5.f3), .own 24 (.bss (bc l b a).1.f5.f4)]), (false, [.rd (.int .i64 (bc l b a).2.1)]), (false, [.rd (.int .i64 (bc l b a).2.2)])] := by
 refine RO.intro Tryz.func30 rfl 16 rfl (le_ok rfl) fun w Z => ?_
 refine T.bnd 1 0 rfl rfl fun hb_1_0 => ?_
 simp only [D.size, List.length_map] at hb_1_0
 refine T.sr [(3, (.one (.ptr 3 0))), (6, (.one (.ptr 6 0))), (7, (pI 0)), (8, (pI 0))] [(3, (46, (c_2 l))), (6, (31, c_45))] ?_
 refine T.sg ?_
 refine TL.rx 3 [(9, (.agg (c_2 l))), (10, (pS b)), (11, (pI a))] [] ?_
 have nn1 := @getHead_sm l b a p_53
 refine TL.c (Step.cz (ok_impl_Head_ l b a p_5 p_1)) ?_
 refine TL.rl [(7, (pI (bc l b a).2.1)), (8, (pI (bc l b a).2.2))] [(6, (31, [cI (bc l b a).1.f0, cI (bc l b a).1.f1, cI (bc l b a).1.f2, .row 4012 [], .row 5012 [], cI (bc l b a).1.f5.f0, cI (bc l b a).1.f5.f1, .row 8012 [], .row 9012 [], .row 10012 []]))] ?_
 refine T.ret ?_
 refine ⟨_, (.cons rfl (.cons rfl (.cons rfl .nil))), rfl, _, (.r rfl (.r rfl (.r rfl (.o ?_ (.o ?_ (.r rfl (.r rfl (.o ?_ (.o ?_ (.o ?_ (.r rfl (.r rfl .nil))))))))))))⟩ <;> (rfl)
theorem ok_impl_GetText (b : List Int) (a : Int) (m : Int) (h0_ : U8s b) (h1_ : b.length ≤ 1099511627776) : RO Tryz.prog 139 [.one (.ints .u8 b), .one (.int .i64 a), .one (.int .i64 m)] [(false, [.own 5 (.ints .u8 (getText b a m).1)]), (false, [.rd (.int .i64 (getText b a m).2.1)]), (false, [.rd (.int .i64 (getText b a m).2.2)])] := by
 refine RO.intro Tryz.func139 rfl 31 rfl (le_ok rfl) fun w Z => ?_
 refine T.bnd 0 0 rfl rfl fun hb_0_0 => ?_
 simp only [D.size, List.length_map] at hb_0_0
 refine T.sr [(6, (.one (.nil))), (7, (pI 0)), (8, (pI 0))] [] ?_
 refine T.sg ?_
 refine TL.rx 2 [(12, (pS b)), (13, (pI a))] [] ?_
 have nn1 := @getVar_bd b p_5 a
 refine TL.c (Step.cz (ok_impl_GetVar b a p_5 p_1)) ?_
 refine TL.rl [(9, (pI (getVar b a).1)), (1, (pI (getVar b a).2.1)), (10, (pI (getVar b a).2.2))] [] ?_
 refine T.seq ?_
 refine T.sr [(19, (pB (decide ((getVar b a).2.2 ≠ 0))))] [] ?_
 refine T.ci rfl (fun h2 => ?_) (fun h2 => ?_)
 ·refine T.sr [(6, (.one (.nil))), (7, (pI 0)), (8, (pI (getVar b a).2.2))] [] ?_
  refine T.ret ?_
  exact p_135
 refine T.skip (T.seq ?_)
 refine T.sr [(23, (pB (decide (m < (getVar b a).1))))] [] ?_
 refine T.ci rfl (fun h3 => ?_) (fun h3 => ?_)
 ·refine T.sr [(6, (.one (.nil))), (7, (pI 0)), (8, (pI 3))] [] ?_
  refine T.ret ?_
  exact p_135
 refine T.skip (T.sg ?_)
 refine TL.rx 3 [(24, (pS b)), (25, (pI (getVar b a).2.1)), (26, (pI (getVar b a).1))] [] ?_
 have nn4 := getRaw_bd b (getVar b a).2.1 (getVar b a).1
 refine TL.c (Step.cz (ok_impl_GetRaw b (getVar b a).2.1 (getVar b a).1 p_1)) ?_
 refine TL.rl [(6, (.one (.row 1027 []))), (7, (pI (au b (getVar b a).2.1 (getVar b a).1).2.1)), (8, (pI (au b (getVar b a).2.1 (getVar b a).1).2.2))] [] ?_
 refine T.ret ?_
 exact p_172
theorem ok_impl_reader__text (b : List Int) (s : SRS) (m : Int) (h0_ : U8s b) (h1_ : b.length ≤ 1048576) : BX Tryz.prog 117 [.bx, .rd (.one (.int .i64 m))] 151 [.rd (.ints .u8 b), .rd (.int .i64 s.f0), .rd (.int .i64 s.f1)] [.rd (.ints .u8 b), .rd (.int .i64 (rdText b s m).1.f0), .rd (.int .i64 (rdText b s m).1.f1)] [(false, [.own 5 (.ints .u8 (rdText b s m).2)])] := by
 refine BX.intro Tryz.func117 rfl 36 rfl (le_ok rfl) (le_ok rfl) fun w Z IX pin hp => ?_
 refine T.sr [(4, (.one (.nil)))] [] ?_
 refine T.seq ?_
 refine T.sr [(12, (pB (decide (s.f1 ≠ 0))))] [] ?_
 refine T.ci rfl (fun h1 => ?_) (fun h1 => ?_)
 ·refine T.sr [(4, (.one (.nil)))] [] ?_
  refine T.ret ?_
  exact p_174
 refine T.skip (T.seq ?_)
 have nn2 := getText_bd b s.f0 m
 refine T.draw [⟨14, (.one (.ptr 800 0)), []⟩, ⟨15, (.one (.ptr 800 0)), []⟩, ⟨16, (.one (.ptr 800 0)), []⟩, ⟨17, (pS b), []⟩, ⟨18, (.one (.ptr 800 0)), []⟩, ⟨19, (.one (.ptr 800 0)), []⟩, ⟨20, (.one (.ptr 800 1)), []⟩, ⟨21, (pI s.f0), []⟩, ⟨22, (pI m), []⟩, ⟨23, (.tup [(false, [.row 1023 []]), (false, [cI (getText b s.f0 m).2.1]), (false, [cI (getText b s.f0 m).2.2])]), [(1023, (5, (.ints .u8 (getText b s.f0 m).1)))]⟩, ⟨13, (.tup [(false, [.row 1023 []]), (false, [cI (getText b s.f0 m).2.1]), (false, [cI (getText b s.f0 m).2.2])]), []⟩, ⟨24, (.one (.row 1023 [])), []⟩, ⟨25, (pI (getText b s.f0 m).2.1), []⟩, ⟨26, (pI (getText b s.f0 m).2.2), []⟩, ⟨5, (.one (.row 1023 [])), []⟩, ⟨6, (pI (getText b s.f0 m).2.1), []⟩, ⟨7, (pI (getText b s.f0 m).2.2), []⟩] p_7 p_7 ?_ ?_
 ·refine .cons (fun E A => A.mv 0 14) ?_
  refine .cons (fun E A => OpStep.plain rfl (Step.nilCheck (t := 15) rfl rfl p_24 (A.g 14 rfl))) ?_
  refine .cons (fun E A => OpStep.plain rfl (Step.fa (off := 0) (n := 1) (one := true) 0 16 (A.g 15 rfl))) ?_
  refine .cons (fun E A => OpStep.plain rfl (Step.load_box (c := cS b) (t := 17) rfl rfl p_24 p_7 (A.g 16 rfl) (by exact A.box rfl) rfl)) ?_
  refine .cons (fun E A => A.mv 0 18) ?_
  refine .cons (fun E A => OpStep.plain rfl (Step.nilCheck (t := 19) rfl rfl p_24 (A.g 18 rfl))) ?_
  refine .cons (fun E A => OpStep.plain rfl (Step.fa (off := 1) (n := 1) (one := true) 0 20 (A.g 19 rfl))) ?_
  refine .cons (fun E A => OpStep.plain rfl (Step.load_box (c := cI s.f0) (t := 21) rfl rfl p_24 p_7 (A.g 20 rfl) (by exact A.box rfl) rfl)) ?_
  refine .cons (fun E A => A.mv 1 22) ?_
  refine .cons (fun E A => OpStep.plain rfl (Step.call (f := 139) (xs := [.tmp 17, .tmp 21, .tmp 22]) (ps := [(pS b), (pI s.f0), (pI m)]) false (g := .func 139) (t := 23) rfl rfl p_24 rfl p_7 (evs_cons (A.g 17 rfl) (evs_cons (A.g 21 rfl) (evs_cons (A.g 22 rfl) (rfl)))) (.cons (.one (.d _)) (.cons (.one (.d _)) (.cons (.one (.d _)) .nil))) (ok_impl_GetText b s.f0 m p_5 p_1) (.inr rfl) (At.freshRows A rfl) (fun x hx => by have := hp x hx; omega) rfl)) ?_
  refine .cons (fun E A => A.mv 23 13) ?_
  refine .cons (fun E A => OpStep.plain rfl (Step.extract (p := (.one (.row 1023 []))) (t := 24) rfl rfl p_24 (A.g 13 rfl) rfl)) ?_
  refine .cons (fun E A => OpStep.plain rfl (Step.extract (p := (pI (getText b s.f0 m).2.1)) (t := 25) rfl rfl p_24 (A.g 13 rfl) rfl)) ?_
  refine .cons (fun E A => OpStep.plain rfl (Step.extract (p := (pI (getText b s.f0 m).2.2)) (t := 26) rfl rfl p_24 (A.g 13 rfl) rfl)) ?_
  refine .cons (fun E A => A.as 24 5) ?_
  refine .cons (fun E A => A.as 25 6) ?_
  refine .cons (fun E A => A.as 26 7) ?_
  exact .nil _ _
 refine TL.nil ?_
 refine T.sr [] [(800, (151, [cS b, cI (getText b s.f0 m).2.1, cI (getText b s.f0 m).2.2]))] ?_
 refine T.sr [(4, (.one (.row 1023 [])))] [] ?_
 refine T.ret ?_
 exact p_176
theorem ok_impl_ShaInit  : RO Tryz.prog 151 [] [(false, [.own 3 (.ints .i64 shaInit)])] := by
 refine RO.intro Tryz.func151 rfl 2 rfl (le_ok rfl) fun w Z => ?_
 refine T.sr [(0, (.one (.nil)))] [] ?_
 refine T.sg ?_
 refine TL.c (Step.lt 3 1 8 [.const (.int .i64 1779033703), .const (.int .i64 3144134277), .const (.int .i64 1013904242), .const (.int .i64 2773480762), .const (.int .i64 1359893119), .const (.int .i64 2600822924), .const (.int .i64 528734635), .const (.int .i64 1541459225)] [[cI 1779033703], [cI 3144134277], [cI 1013904242], [cI 2773480762], [cI 1359893119], [cI 2600822924], [cI 528734635], [cI 1541459225]] (.ints .i64 [1779033703, 3144134277, 1013904242, 2773480762, 1359893119, 2600822924, 528734635, 1541459225])) ?_
 refine TL.rl [(0, (.one (.row 1 [])))] [] ?_
 refine T.ret ?_
 exact p_131
theorem ok_impl_ShaPad (b : List Int) (h0_ : b.length ≤ 17592186040000) : RO Tryz.prog 152 [.one (.ints .u8 b)] [(false, [.own 5 (.ints .u8 (shaPad b))])] := by
 refine RO.intro Tryz.func152 rfl 31 rfl (le_ok rfl) fun w Z => ?_
 refine T.bnd 0 0 rfl rfl fun hb_0_0 => ?_
 simp only [D.size, List.length_map] at hb_0_0
 refine T.sr [(2, (.one (.nil)))] [] ?_
 refine T.sg ?_
 refine TL.rx 1 [(5, (pS b))] [] ?_
 refine TL.c (Step.cz (ok_impl_copyBytes b p_97)) ?_
 refine TL.c (Step.lt 5 1 1 [.const (.int .u8 128)] [[.d (.int .u8 128)]] (.ints .u8 [128])) ?_
 refine TL.c (Step.ap 5 1 1 (.ints .u8 [128]) (.ints .u8 (b ++ [128])) (.copy rfl rfl rfl p_91)) ?_
 refine TL.rl [(3, (.one (.row 1006 [])))] [] ?_
 refine T.seq (T.block ?_)
 refine T.loop (ι := Nat) (fun xx_ => { tm := [(0, (pS b)), (2, (.one (.nil))), (3, (.one (.row 1006 [])))], rows := [(1006, (5, (.ints .u8 (b ++ [128] ++ List.replicate xx_ 0)))), (7, (5, (.ints .u8 [128])))], boxes := [] }) (fun xx_ => xx_ ≤ padK b.length) (fun xx_ => padK b.length - xx_) 0 ?_ ?_ ?_
 · refine Env.le_mk ⟨rfl, rfl, rfl, trivial⟩ ⟨?_, rfl, trivial⟩ trivial <;> exact p_46
 · exact Nat.zero_le _
 intro i hx
 try dsimp only at hx ⊢
 have hl_ : (b ++ [128] ++ List.replicate i 0).length = b.length + 1 + i := by simp; omega
 have hk_ : padK b.length ≤ 63 := by unfold padK; omega
 refine T.seq (T.sg ?_)
 refine TL.rx 1 [(9, (.one (.row 1006 [])))] [] ?_
 refine TL.c (Step.ln 5 1 (.ints .u8 (b ++ [128] ++ List.replicate i 0))) ?_
 refine TL.c (Step.bin (r := .int .i64 (((b ++ [128] ++ List.replicate i 0).length : Int) % 64)) rfl rfl (lt_ok rfl) rfl rfl (Bin.rem (k := .i64) (a := ((b ++ [128] ++ List.replicate i 0).length : Int)) (b := 64) (by decide) (Int.tmod_eq_emod_of_nonneg p_23))) ?_
 refine TL.rl [(12, (pB (decide ((((b ++ [128] ++ List.replicate i 0).length : Int) % 64) ≠ 56))))] [] ?_
 refine T.ci rfl (fun h1 => ?_) (fun h1 => ?_)
 ·refine T.skip (T.block (T.region ?_))
  refine TL.rx 1 [(13, (.one (.row 1006 [])))] [] ?_
  refine TL.c (Step.lt 5 1 1 [.const (.int .u8 0)] [[.d (.int .u8 0)]] (.ints .u8 [0])) ?_
  refine TL.c (Step.ap 5 1 1 (.ints .u8 [0]) (.ints .u8 ((b ++ [128] ++ List.replicate i 0) ++ [0])) (.copy rfl rfl rfl p_91)) ?_
  refine TL.rl [(3, (.one (.row 1006 [])))] [] ?_
  refine ⟨i + 1, by (unfold padK at *; omega), by (unfold padK at *; omega), Env.le_mk ⟨rfl, rfl, rfl, trivial⟩ ⟨?_, rfl, trivial⟩ trivial⟩ <;> exact p_46
 refine T.exit (T.seq ?_)
 refine T.sr [(4, (pI 7))] [] ?_
 refine T.block ?_
 refine T.loop (ι := Nat) (fun xx_ => { tm := [(0, (pS b)), (2, (.one (.nil))), (3, (.one (.row 1006 []))), (4, (pI (7 - (xx_ : Int))))], rows := [(1006, (5, (.ints .u8 (b ++ [128] ++ List.replicate (padK b.length) 0 ++ padB b.length xx_)))), (7, (5, (.ints .u8 [128])))], boxes := [] }) (fun xx_ => xx_ ≤ 8) (fun xx_ => 8 - xx_) 0 ?_ ?_ ?_
 · refine Env.le_mk ⟨rfl, rfl, rfl, ?_, trivial⟩ ⟨?_, rfl, trivial⟩ trivial <;> exact p_44
 · exact Nat.zero_le _
 intro i hx
 try dsimp only at hx ⊢
 have hl_ : (b ++ [128] ++ List.replicate (padK b.length) 0 ++ padB b.length i).length = b.length + 1 + padK b.length + i := by simp [padB_len]; omega
 have hl3_ := padB_len b.length i
 have hk_ : padK b.length ≤ 63 := by unfold padK; omega
 refine T.seq ?_
 refine T.sr [(17, (pB (decide (0 ≤ (7 - (i : Int))))))] [] ?_
 refine T.ci rfl (fun h2 => ?_) (fun h2 => ?_)
 ·refine T.skip (T.seq (T.block (T.region ?_)))
  refine TL.rx 2 [(20, (.one (.row 1006 []))), (21, (pS b))] [] ?_
  refine TL.c (Step.ln 5 1 (.ints .u8 b)) ?_
  refine TL.ml (8 * (b.length : Int)) ?_
  refine TL.rx 1 [(24, (pI (7 - (i : Int))))] [] ?_
  refine TL.ml (8 * (7 - (i : Int))) ?_
  refine TL.c (Step.bin (r := .int .i64 (bshr (8 * (b.length : Int)) (8 * (7 - (i : Int))))) rfl rfl (lt_ok rfl) rfl rfl (Bin.shr (k := .i64) (k' := .i64) (a := (8 * (b.length : Int))) (b := (8 * (7 - (i : Int)))) p_23 (rfl))) ?_
  refine TL.c (Step.conv (c := ((bshr (8 * (b.length : Int)) (8 * (7 - (i : Int)))) % 256)) rfl rfl (lt_ok rfl) p_7 p_7 rfl (wrap_byte _)) ?_
  refine TL.c (Step.lt 5 1 1 [.tmp 27] [[.d (.int .u8 ((bshr (8 * (b.length : Int)) (8 * (7 - (i : Int)))) % 256))]] (.ints .u8 [(bshr (8 * (b.length : Int)) (8 * (7 - (i : Int)))) % 256])) ?_
  refine TL.c (Step.ap 5 1 1 (.ints .u8 [(bshr (8 * (b.length : Int)) (8 * (7 - (i : Int)))) % 256]) (.ints .u8 ((b ++ [128] ++ List.replicate (padK b.length) 0 ++ padB b.length i) ++ [(bshr (8 * (b.length : Int)) (8 * (7 - (i : Int)))) % 256])) (.copy rfl rfl rfl p_91)) ?_
  refine TL.rl [(3, (.one (.row 1006 [])))] [] ?_
  refine T.region ?_
  refine TL.rx 1 [(18, (pI (7 - (i : Int))))] [] ?_
  refine TL.sb ((7 - (i : Int)) - 1) ?_
  refine TL.rl [(4, (pI ((7 - (i : Int)) - 1)))] [] ?_
  refine ⟨i + 1, by omega, by omega, Env.le_mk ⟨rfl, rfl, rfl, ?_, trivial⟩ ⟨?_, rfl, trivial⟩ trivial⟩ <;> exact p_44
 refine T.exit ?_
 refine T.sr [(2, (.one (.row 1006 [])))] [] ?_
 refine T.ret ?_
 exact p_168
theorem ok_impl_isWord (x : Int) : RO Tryz.prog 156 [.one (.int .i64 x)] [(false, [.rd (.bool (decide (0 ≤ x ∧ x ≤ 4294967295)))])] := by
 refine RO.intro Tryz.func156 rfl 5 rfl (le_ok rfl) fun w Z => ?_
 refine T.sr [(2, (pB false))] [] ?_
 refine T.sg ?_
 refine TL.rx 1 [(3, (pI x))] [] ?_
 refine TL.c (Step.cz (ok_impl_within x 0 4294967295)) ?_
 refine TL.rl [(2, (pB (decide (0 ≤ x ∧ x ≤ 4294967295))))] [] ?_
 refine T.ret ?_
 exact ⟨_, (.cons rfl .nil), rfl, _, (.r rfl .nil)⟩
theorem ok_impl_rounds  : RO Tryz.prog 159 [] [(false, [.own 3 (.ints .i64 shaK)])] := by
 refine RO.intro Tryz.func159 rfl 2 rfl (le_ok rfl) fun w Z => ?_
 refine T.sr [(0, (.one (.nil)))] [] ?_
 refine T.sg ?_
 refine TL.c (Step.lt 3 1 8 [.const (.int .i64 1116352408), .const (.int .i64 1899447441), .const (.int .i64 3049323471), .const (.int .i64 3921009573), .const (.int .i64 961987163), .const (.int .i64 1508970993), .const (.int .i64 2453635748), .const (.int .i64 2870763221), .const (.int .i64 3624381080), .const (.int .i64 310598401), .const (.int .i64 607225278), .const (.int .i64 1426881987), .const (.int .i64 1925078388), .const (.int .i64 2162078206), .const (.int .i64 2614888103), .const (.int .i64 3248222580), .const (.int .i64 3835390401), .const (.int .i64 4022224774), .const (.int .i64 264347078), .const (.int .i64 604807628), .const (.int .i64 770255983), .const (.int .i64 1249150122), .const (.int .i64 1555081692), .const (.int .i64 1996064986), .const (.int .i64 2554220882), .const (.int .i64 2821834349), .const (.int .i64 2952996808), .const (.int .i64 3210313671), .const (.int .i64 3336571891), .const (.int .i64 3584528711), .const (.int .i64 113926993), .const (.int .i64 338241895), .const (.int .i64 666307205), .const (.int .i64 773529912), .const (.int .i64 1294757372), .const (.int .i64 1396182291), .const (.int .i64 1695183700), .const (.int .i64 1986661051), .const (.int .i64 2177026350), .const (.int .i64 2456956037), .const (.int .i64 2730485921), .const (.int .i64 2820302411), .const (.int .i64 3259730800), .const (.int .i64 3345764771), .const (.int .i64 3516065817), .const (.int .i64 3600352804), .const (.int .i64 4094571909), .const (.int .i64 275423344), .const (.int .i64 430227734), .const (.int .i64 506948616), .const (.int .i64 659060556), .const (.int .i64 883997877), .const (.int .i64 958139571), .const (.int .i64 1322822218), .const (.int .i64 1537002063), .const (.int .i64 1747873779), .const (.int .i64 1955562222), .const (.int .i64 2024104815), .const (.int .i64 2227730452), .const (.int .i64 2361852424), .const (.int .i64 2428436474), .const (.int .i64 2756734187), .const (.int .i64 3204031479), .const (.int .i64 3329325298)] [[cI 1116352408], [cI 1899447441], [cI 3049323471], [cI 3921009573], [cI 961987163], [cI 1508970993], [cI 2453635748], [cI 2870763221], [cI 3624381080], [cI 310598401], [cI 607225278], [cI 1426881987], [cI 1925078388], [cI 2162078206], [cI 2614888103], [cI 3248222580], [cI 3835390401], [cI 4022224774], [cI 264347078], [cI 604807628], [cI 770255983], [cI 1249150122], [cI 1555081692], [cI 1996064986], [cI 2554220882], [cI 2821834349], [cI 2952996808], [cI 3210313671], [cI 3336571891], [cI 3584528711], [cI 113926993], [cI 338241895], [cI 666307205], [cI 773529912], [cI 1294757372], [cI 1396182291], [cI 1695183700], [cI 1986661051], [cI 2177026350], [cI 2456956037], [cI 2730485921], [cI 2820302411], [cI 3259730800], [cI 3345764771], [cI 3516065817], [cI 3600352804], [cI 4094571909], [cI 275423344], [cI 430227734], [cI 506948616], [cI 659060556], [cI 883997877], [cI 958139571], [cI 1322822218], [cI 1537002063], [cI 1747873779], [cI 1955562222], [cI 2024104815], [cI 2227730452], [cI 2361852424], [cI 2428436474], [cI 2756734187], [cI 3204031479], [cI 3329325298]] (.ints .i64 [1116352408, 1899447441, 3049323471, 3921009573, 961987163, 1508970993, 2453635748, 2870763221, 3624381080, 310598401, 607225278, 1426881987, 1925078388, 2162078206, 2614888103, 3248222580, 3835390401, 4022224774, 264347078, 604807628, 770255983, 1249150122, 1555081692, 1996064986, 2554220882, 2821834349, 2952996808, 3210313671, 3336571891, 3584528711, 113926993, 338241895, 666307205, 773529912, 1294757372, 1396182291, 1695183700, 1986661051, 2177026350, 2456956037, 2730485921, 2820302411, 3259730800, 3345764771, 3516065817, 3600352804, 4094571909, 275423344, 430227734, 506948616, 659060556, 883997877, 958139571, 1322822218, 1537002063, 1747873779, 1955562222, 2024104815, 2227730452, 2361852424, 2428436474, 2756734187, 3204031479, 3329325298])) ?_
 refine TL.rl [(0, (.one (.row 1 [])))] [] ?_
 refine T.ret ?_
 exact p_131
theorem ok_impl_TurnRight (x : Int) (n : Int) (h0_ : 0 ≤ x ∧ x ≤ 4294967295) (h1_ : 0 ≤ n ∧ n ≤ 31) : RO Tryz.prog 160 [.one (.int .i64 x), .one (.int .i64 n)] [(false, [.rd (.int .i64 (turnW x n))])] := by
 refine RO.intro Tryz.func160 rfl 22 rfl (le_ok rfl) fun w Z => ?_
 refine T.sr [(4, (pI 0))] [] ?_
 refine T.seq (T.sg ?_)
 refine TL.rx 1 [(5, (pI x))] [] ?_
 refine TL.c (Step.cz (ok_impl_isWord x)) ?_
 refine TL.rx 2 [(8, (pB (!(decide (0 ≤ x ∧ x ≤ 4294967295)))))] [] ?_
 rcases Bool.eq_false_or_eq_true (!(decide (0 ≤ x ∧ x ≤ 4294967295))) with hb1 | hb1
 ·refine TL.known 8 hb1 rfl ?_
  have hb1' := hb1
  replace hb1' : (decide (0 ≤ x ∧ x ≤ 4294967295)) = false := by simpa only [Bool.not_eq_true', Bool.not_eq_false'] using hb1'
  replace hb1' := of_decide_eq_false hb1'
  refine TL.rl [(12, (pB true))] [] ?_
  refine T.ct ?_
  refine T.sr [(4, (pI 0))] [] ?_
  refine T.ret ?_
  exact p_158
 refine TL.known 8 hb1 rfl ?_
 have hb1' := hb1
 replace hb1' : (decide (0 ≤ x ∧ x ≤ 4294967295)) = true := by simpa only [Bool.not_eq_true', Bool.not_eq_false'] using hb1'
 replace hb1' := of_decide_eq_true hb1'
 refine TL.rx 1 [(9, (pI n))] [] ?_
 refine TL.gy 8 (Step.cz (ok_impl_within n 0 31)) ?_
 refine TL.rl [(12, (pB (!(decide (0 ≤ n ∧ n ≤ 31)))))] [] ?_
 refine T.cni rfl (fun h2 => ?_) (fun h2 => ?_)
 ·refine T.sr [(4, (pI 0))] [] ?_
  refine T.ret ?_
  exact p_158
 refine T.skip (T.seq ?_)
 refine T.draw [⟨13, (pI x), []⟩, ⟨14, (pI n), []⟩, ⟨15, (pI (bshr x n)), []⟩, ⟨16, (pI x), []⟩, ⟨17, (pI n), []⟩, ⟨18, (pI (32 - n)), []⟩, ⟨19, (pI (bshl x (32 - n))), []⟩, ⟨20, (pI (bor (bshr x n) (bshl x (32 - n)))), []⟩, ⟨21, (pI (band (bor (bshr x n) (bshl x (32 - n))) 4294967295)), []⟩, ⟨4, (pI (band (bor (bshr x n) (bshl x (32 - n))) 4294967295)), []⟩] p_7 p_7 ?_ ?_
 ·refine .cons (fun E A => A.mv 0 13) ?_
  refine .cons (fun E A => A.mv 1 14) ?_
  refine .cons (fun E A => OpStep.plain rfl (Step.bd (r := .int .i64 (bshr x n)) 15 (A.g 13 rfl) (A.g 14 rfl) (Bin.shr (k := .i64) (k' := .i64) (a := x) (b := n) p_23 (rfl)))) ?_
  refine .cons (fun E A => A.mv 0 16) ?_
  refine .cons (fun E A => A.mv 1 17) ?_
  refine .cons (fun E A => OpStep.plain rfl (Step.bd (r := .int .i64 (32 - n)) 18 rfl (A.g 17 rfl) (Bin.sub (a := 32) (b := n) p_54))) ?_
  refine .cons (fun E A => OpStep.plain rfl (Step.bd (r := .int .i64 (bshl x (32 - n))) 19 (A.g 16 rfl) (A.g 18 rfl) (Bin.shl (k := .i64) (k' := .i64) (a := x) (b := (32 - n)) p_23 (rfl)))) ?_
  refine .cons (fun E A => OpStep.plain rfl (Step.bd (r := .int .i64 (bor (bshr x n) (bshl x (32 - n)))) 20 (A.g 15 rfl) (A.g 19 rfl) (Bin.or (k := .i64) (a := (bshr x n)) (b := (bshl x (32 - n))) (rfl)))) ?_
  refine .cons (fun E A => OpStep.plain rfl (Step.bd (r := .int .i64 (band (bor (bshr x n) (bshl x (32 - n))) 4294967295)) 21 (A.g 20 rfl) rfl (Bin.and (k := .i64) (a := (bor (bshr x n) (bshl x (32 - n)))) (b := 4294967295) (rfl)))) ?_
  refine .cons (fun E A => A.as 21 4) ?_
  exact .nil _ _
 refine TL.nil (T.ret ?_)
 exact p_158
theorem ok_impl_ShaBlock (h : List Int) (b : List Int) (h0_ : U8s b) : RO Tryz.prog 153 [.one (.ints .i64 h), .one (.ints .u8 b)] [(false, [.own 3 (.ints .i64 (shaBlock h b))])] := by
 refine RO.intro Tryz.func153 rfl 235 rfl (le_ok rfl) fun w Z => ?_
 refine T.bnd 0 0 rfl rfl fun hb_0_0 => ?_
 simp only [D.size, List.length_map] at hb_0_0
 refine T.bnd 1 0 rfl rfl fun hb_1_0 => ?_
 simp only [D.size, List.length_map] at hb_1_0
 refine T.sr [(4, (.one (.nil)))] [] ?_
 refine T.seq (T.sg ?_)
 refine TL.rx 1 [(25, (.one (.d (.ints .i64 h))))] [] ?_
 refine TL.c (Step.ln 3 1 (.ints .i64 h)) ?_
 refine TL.rx 2 [(28, (pB (decide ((h.length : Int) ≠ 8))))] [] ?_
 rcases Bool.eq_false_or_eq_true (decide ((h.length : Int) ≠ 8)) with hb1 | hb1
 ·refine TL.known 28 hb1 rfl ?_
  have hb1' := hb1
  replace hb1' := of_decide_eq_true hb1'
  refine TL.rl [(32, (pB true))] [] ?_
  refine T.ct ?_
  refine T.sr [(4, (.one (.nil)))] [] ?_
  refine T.ret ?_
  exact p_140
 refine TL.known 28 hb1 rfl ?_
 have hb1' := hb1
 replace hb1' := of_decide_eq_false hb1'
 refine TL.rx 1 [(29, (pS b))] [] ?_
 refine TL.gy 28 (Step.ln 5 1 (.ints .u8 b)) ?_
 refine TL.rl [(32, (pB (decide ((b.length : Int) ≠ 64))))] [] ?_
 refine T.ci rfl (fun h2 => ?_) (fun h2 => ?_)
 ·refine T.sr [(4, (.one (.nil)))] [] ?_
  refine T.ret ?_
  exact p_140
 refine T.skip (T.seq (T.sg ?_))
 refine TL.rx 1 [(33, (.one (.d (.ints .i64 h))))] [] ?_
 refine TL.c (Step.ln 3 1 (.ints .i64 h)) ?_
 refine TL.rl [(35, (pI 0))] [] ?_
 refine T.block ?_
 refine T.loop (ι := Nat) (fun xx_ => { tm := [(0, (.one (.d (.ints .i64 h)))), (1, (pS b)), (33, (.one (.d (.ints .i64 h)))), (34, (pI (h.length : Int))), (35, (pI (xx_ : Int)))], rows := [], boxes := [] }) (fun xx_ => xx_ ≤ h.length ∧ wordsOk (h.take xx_) = true) (fun xx_ => h.length - xx_) 0 ?_ ?_ ?_
 · refine Env.le_mk ⟨rfl, rfl, rfl, rfl, ?_, trivial⟩ trivial trivial <;> exact p_106
 · (refine ⟨Nat.zero_le _, by rw [List.take_zero]; rfl⟩)
 intro i hx
 try dsimp only at hx ⊢
 obtain ⟨hx1, hx2⟩ := hx
 refine T.sr [(36, (pB (decide ((i : Int) < (h.length : Int)))))] [] ?_
 refine T.seq ?_
 refine T.ci rfl (fun h3 => ?_) (fun h3 => ?_)
 ·refine T.skip (T.seq (T.block (T.sg ?_)))
  refine TL.c (Step.index (e := 3) (z := 1) (i := (i : Int)) rfl rfl (lt_ok rfl) p_7 rfl rfl rfl (lt_ok rfl) rfl p_6 p_35) ?_
  refine TL.c (Step.load (e := (.int .i64 (h.getD i 0))) rfl rfl (lt_ok rfl) p_7 rfl rfl) ?_
  refine TL.rl [(6, (pI (h.getD i 0)))] [] ?_
  refine T.sg ?_
  refine TL.rx 1 [(39, (pI (h.getD i 0)))] [] ?_
  refine TL.c (Step.cz (ok_impl_isWord (h.getD i 0))) ?_
  refine TL.rl [(41, (pB (!(decide (0 ≤ (h.getD i 0) ∧ (h.getD i 0) ≤ 4294967295)))))] [] ?_
  refine T.cni rfl (fun h4 => ?_) (fun h4 => ?_)
  ·refine T.sr [(4, (.one (.nil)))] [] ?_
   refine T.ret ?_
   exact p_140
  refine T.skip (T.region ?_)
  refine TL.c (Step.bin (r := .int .i64 ((i : Int) + 1)) rfl rfl (lt_ok rfl) rfl rfl (Bin.add (a := (i : Int)) (b := 1) p_11)) ?_
  refine TL.rl [(35, (pI ((i : Int) + 1)))] [] ?_
  refine ⟨i + 1, by (refine ⟨by omega, words_step p_4 hx2 p_4⟩), by first | omega | (dsimp only; omega), Env.le_mk ⟨rfl, rfl, rfl, rfl, ?_, trivial⟩ trivial trivial⟩ <;> exact p_106
 refine T.exit (T.sg ?_)
 refine TL.c (Step.buildArr (zs := List.replicate 64 (.int .i64 0)) (size := 1) (pss := []) (ps' := (List.replicate 64 (.d (.int .i64 0)))) rfl rfl (lt_ok rfl) p_7 .nil rfl p_7 p_7) ?_
 refine TL.c (Step.cz (ok_impl_rounds )) ?_
 refine TL.c (Step.buildArr (zs := List.replicate 8 (.int .i64 0)) (size := 1) (pss := []) (ps' := [cI 0, cI 0, cI 0, cI 0, cI 0, cI 0, cI 0, cI 0]) rfl rfl (lt_ok rfl) p_7 .nil rfl p_7 p_7) ?_
 refine TL.c (Step.allocArr (zs := List.replicate 64 (.int .i64 0)) (zd := List.replicate 64 (.int .i64 0)) (d := (.ints .i64 (List.replicate 64 0))) rfl rfl (lt_ok rfl) p_7 (zeroB_ok _ _ p_7) p_7 rfl trivial (by decide) (by decide) (by decide) rfl p_105) ?_
 refine TL.c (Step.allocArr (zs := List.replicate 8 (.int .i64 0)) (zd := List.replicate 8 (.int .i64 0)) (d := (.ints .i64 (List.replicate 8 0))) rfl rfl (lt_ok rfl) p_7 (zeroB_ok _ _ p_7) p_7 rfl trivial (by decide) (by decide) (by decide) rfl p_105) ?_
 refine TL.c (Step.store_row (n := 64) (p := (.agg (List.replicate 64 (.d (.int .i64 0))))) (ps := (List.replicate 64 (.d (.int .i64 0)))) (es := (List.replicate 64 ((.int .i64 0)))) (ss := []) (d1 := (.ints .i64 (List.replicate 64 (0)))) (d' := (.ints .i64 (List.replicate 64 (0)))) rfl rfl p_7 rfl rfl rfl rfl rfl rfl (.val rfl (.val rfl (.val rfl (.val rfl (.val rfl (.val rfl (.val rfl (.val rfl (.val rfl (.val rfl (.val rfl (.val rfl (.val rfl (.val rfl (.val rfl (.val rfl (.val rfl (.val rfl (.val rfl (.val rfl (.val rfl (.val rfl (.val rfl (.val rfl (.val rfl (.val rfl (.val rfl (.val rfl (.val rfl (.val rfl (.val rfl (.val rfl (.val rfl (.val rfl (.val rfl (.val rfl (.val rfl (.val rfl (.val rfl (.val rfl (.val rfl (.val rfl (.val rfl (.val rfl (.val rfl (.val rfl (.val rfl (.val rfl (.val rfl (.val rfl (.val rfl (.val rfl (.val rfl (.val rfl (.val rfl (.val rfl (.val rfl (.val rfl (.val rfl (.val rfl (.val rfl (.val rfl (.val rfl (.val rfl .nil)))))))))))))))))))))))))))))))))))))))))))))))))))))))))))))))) p_105 (by have h_ := Putd.all (k := .i64) (xs := List.replicate 64 0) (ys := (List.replicate 64 (0))) (by first | exact hl_ | rfl); exact h_) rfl) ?_
 refine TL.rx 1 [(8, (.one (.row 1044 [])))] [] ?_
 refine TL.c (Step.store_row (n := 8) (p := (.agg [cI 0, cI 0, cI 0, cI 0, cI 0, cI 0, cI 0, cI 0])) (ps := [cI 0, cI 0, cI 0, cI 0, cI 0, cI 0, cI 0, cI 0]) (es := [(.int .i64 0), (.int .i64 0), (.int .i64 0), (.int .i64 0), (.int .i64 0), (.int .i64 0), (.int .i64 0), (.int .i64 0)]) (ss := []) (d1 := (.ints .i64 [0, 0, 0, 0, 0, 0, 0, 0])) (d' := (.ints .i64 [0, 0, 0, 0, 0, 0, 0, 0])) rfl rfl p_7 rfl rfl rfl rfl rfl rfl (.val rfl (.val rfl (.val rfl (.val rfl (.val rfl (.val rfl (.val rfl (.val rfl .nil)))))))) p_105 (by have h_ := Putd.all (k := .i64) (xs := List.replicate 8 0) (ys := [0, 0, 0, 0, 0, 0, 0, 0]) (by first | exact hvl_ | exact hvl_.symm | rfl | (simp; done)); exact h_) rfl) ?_
 refine TL.nil ?_
 refine T.wk [(0, (.one (.d (.ints .i64 h)))), (1, (pS b)), (7, (.one (.rptr 7 [] 0 0))), (9, (.one (.rptr 9 [] 0 0))), (8, (.one (.row 1044 [])))] [(1044, (3, (.ints .i64 shaK))), (7, (164, (.ints .i64 (List.replicate 64 (0))))), (9, (165, (.ints .i64 [0, 0, 0, 0, 0, 0, 0, 0])))] [] ?_
 refine T.seq ?_
 refine T.sr [(46, (pI 0))] [] ?_
 refine T.block ?_
 refine T.loop (ι := Nat) (fun xx_ => { tm := [(0, (.one (.d (.ints .i64 h)))), (1, (pS b)), (7, (.one (.rptr 7 [] 0 0))), (9, (.one (.rptr 9 [] 0 0))), (8, (.one (.row 1044 []))), (46, (pI (xx_ : Int)))], rows := [(1044, (3, (.ints .i64 shaK))), (7, (164, (.ints .i64 (aI b xx_)))), (9, (165, (.ints .i64 [0, 0, 0, 0, 0, 0, 0, 0])))], boxes := [] }) (fun xx_ => xx_ ≤ 16) (fun xx_ => 16 - xx_) 0 ?_ ?_ ?_
 · refine Env.le_mk ⟨rfl, rfl, rfl, rfl, rfl, ?_, trivial⟩ ⟨rfl, ?_, rfl, trivial⟩ trivial <;> exact p_72
 · exact Nat.zero_le _
 intro i hx
 try dsimp only at hx ⊢
 have hwo_ : wordsOk h = true := by rw [List.take_of_length_le p_4] at hx2; exact hx2
 have hl_ := aI_len b hx
 have hu0_ := getD_u8 h0_ (4 * (i : Int)).toNat
 have hu1_ := getD_u8 h0_ (4 * (i : Int) + 1).toNat
 have hu2_ := getD_u8 h0_ (4 * (i : Int) + 2).toNat
 have hu3_ := getD_u8 h0_ (4 * (i : Int) + 3).toNat
 refine T.sr [(47, (pB (decide ((i : Int) < 16))))] [] ?_
 refine T.seq ?_
 refine T.ci rfl (fun h5 => ?_) (fun h5 => ?_)
 ·refine T.skip (T.seq (T.block ?_))
  refine T.sr [(10, (pI (i : Int)))] [] ?_
  obtain ⟨y6, hy6_⟩ : ∃ y_, y_ = bshl (b.getD (4 * (i : Int)).toNat 0) 24 := ⟨_, rfl⟩
  obtain ⟨y7, hy7_⟩ : ∃ y_, y_ = bshl (b.getD ((4 * (i : Int)) + 1).toNat 0) 16 := ⟨_, rfl⟩
  obtain ⟨y8, hy8_⟩ : ∃ y_, y_ = bshl (b.getD ((4 * (i : Int)) + 2).toNat 0) 8 := ⟨_, rfl⟩
  obtain ⟨y9, hy9_⟩ : ∃ y_, y_ = bor (bor (bor y6 y7) y8) (b.getD ((4 * (i : Int)) + 3).toNat 0) := ⟨_, rfl⟩
  refine T.draw [⟨49, (pI (i : Int)), []⟩, ⟨50, (pS b), []⟩, ⟨51, (pI (i : Int)), []⟩, ⟨52, (pI (4 * (i : Int))), []⟩, ⟨53, (.one (.eptr (.ints .u8 b) (4 * (i : Int)).toNat 0)), []⟩, ⟨54, (.one (.d (.int .u8 (b.getD (4 * (i : Int)).toNat 0)))), []⟩, ⟨55, (pI (b.getD (4 * (i : Int)).toNat 0)), []⟩, ⟨56, (pI y6), []⟩, ⟨57, (pS b), []⟩, ⟨58, (pI (i : Int)), []⟩, ⟨59, (pI (4 * (i : Int))), []⟩, ⟨60, (pI ((4 * (i : Int)) + 1)), []⟩, ⟨61, (.one (.eptr (.ints .u8 b) ((4 * (i : Int)) + 1).toNat 0)), []⟩, ⟨62, (.one (.d (.int .u8 (b.getD ((4 * (i : Int)) + 1).toNat 0)))), []⟩, ⟨63, (pI (b.getD ((4 * (i : Int)) + 1).toNat 0)), []⟩, ⟨64, (pI y7), []⟩, ⟨65, (pI (bor y6 y7)), []⟩, ⟨66, (pS b), []⟩, ⟨67, (pI (i : Int)), []⟩, ⟨68, (pI (4 * (i : Int))), []⟩, ⟨69, (pI ((4 * (i : Int)) + 2)), []⟩, ⟨70, (.one (.eptr (.ints .u8 b) ((4 * (i : Int)) + 2).toNat 0)), []⟩, ⟨71, (.one (.d (.int .u8 (b.getD ((4 * (i : Int)) + 2).toNat 0)))), []⟩, ⟨72, (pI (b.getD ((4 * (i : Int)) + 2).toNat 0)), []⟩, ⟨73, (pI y8), []⟩, ⟨74, (pI (bor (bor y6 y7) y8)), []⟩, ⟨75, (pS b), []⟩, ⟨76, (pI (i : Int)), []⟩, ⟨77, (pI (4 * (i : Int))), []⟩, ⟨78, (pI ((4 * (i : Int)) + 3)), []⟩, ⟨79, (.one (.eptr (.ints .u8 b) ((4 * (i : Int)) + 3).toNat 0)), []⟩, ⟨80, (.one (.d (.int .u8 (b.getD ((4 * (i : Int)) + 3).toNat 0)))), []⟩, ⟨81, (pI (b.getD ((4 * (i : Int)) + 3).toNat 0)), []⟩, ⟨82, (pI y9), []⟩, ⟨83, (.one (.rptr 7 [] i 0)), []⟩] p_7 p_7 ?_ ?_
  ·refine .cons (fun E A => A.mv 10 49) ?_
   refine .cons (fun E A => A.mv 1 50) ?_
   refine .cons (fun E A => A.mv 10 51) ?_
   refine .cons (fun E A => OpStep.plain rfl (Step.bd (r := .int .i64 (4 * (i : Int))) 52 rfl (A.g 51 rfl) (Bin.mul (a := 4) (b := (i : Int)) p_11))) ?_
   refine .cons (fun E A => OpStep.plain rfl (Step.index (e := 5) (z := 1) (i := (4 * (i : Int))) (t := 53) rfl rfl p_24 p_7 (A.g 50 rfl) rfl rfl (lt_ok rfl) (A.g 52 rfl) p_6 p_35)) ?_
   refine .cons (fun E A => OpStep.plain rfl (Step.load (e := (.int .u8 (b.getD (4 * (i : Int)).toNat 0))) (t := 54) rfl rfl p_24 p_7 (A.g 53 rfl) rfl)) ?_
   refine .cons (fun E A => OpStep.plain rfl (Step.conv (c := (b.getD (4 * (i : Int)).toNat 0)) (t := 55) rfl rfl p_24 p_7 p_7 (A.g 54 rfl) (wrap_ok p_6 p_6))) ?_
   refine .cons (fun E A => OpStep.plain rfl (Step.bd (r := .int .i64 y6) 56 (A.g 55 rfl) rfl (Bin.shl (k := .i64) (k' := .u64) (a := (b.getD (4 * (i : Int)).toNat 0)) (b := 24) p_6 (hy6_.symm)))) ?_
   refine .cons (fun E A => A.mv 1 57) ?_
   refine .cons (fun E A => A.mv 10 58) ?_
   refine .cons (fun E A => OpStep.plain rfl (Step.bd (r := .int .i64 (4 * (i : Int))) 59 rfl (A.g 58 rfl) (Bin.mul (a := 4) (b := (i : Int)) p_11))) ?_
   refine .cons (fun E A => OpStep.plain rfl (Step.bd (r := .int .i64 ((4 * (i : Int)) + 1)) 60 (A.g 59 rfl) rfl (Bin.add (a := (4 * (i : Int))) (b := 1) p_11))) ?_
   refine .cons (fun E A => OpStep.plain rfl (Step.index (e := 5) (z := 1) (i := ((4 * (i : Int)) + 1)) (t := 61) rfl rfl p_24 p_7 (A.g 57 rfl) rfl rfl (lt_ok rfl) (A.g 60 rfl) p_6 p_35)) ?_
   refine .cons (fun E A => OpStep.plain rfl (Step.load (e := (.int .u8 (b.getD ((4 * (i : Int)) + 1).toNat 0))) (t := 62) rfl rfl p_24 p_7 (A.g 61 rfl) rfl)) ?_
   refine .cons (fun E A => OpStep.plain rfl (Step.conv (c := (b.getD ((4 * (i : Int)) + 1).toNat 0)) (t := 63) rfl rfl p_24 p_7 p_7 (A.g 62 rfl) (wrap_ok p_6 p_6))) ?_
   refine .cons (fun E A => OpStep.plain rfl (Step.bd (r := .int .i64 y7) 64 (A.g 63 rfl) rfl (Bin.shl (k := .i64) (k' := .u64) (a := (b.getD ((4 * (i : Int)) + 1).toNat 0)) (b := 16) p_6 (hy7_.symm)))) ?_
   refine .cons (fun E A => OpStep.plain rfl (Step.bd (r := .int .i64 (bor y6 y7)) 65 (A.g 56 rfl) (A.g 64 rfl) (Bin.or (k := .i64) (a := y6) (b := y7) (rfl)))) ?_
   refine .cons (fun E A => A.mv 1 66) ?_
   refine .cons (fun E A => A.mv 10 67) ?_
   refine .cons (fun E A => OpStep.plain rfl (Step.bd (r := .int .i64 (4 * (i : Int))) 68 rfl (A.g 67 rfl) (Bin.mul (a := 4) (b := (i : Int)) p_11))) ?_
   refine .cons (fun E A => OpStep.plain rfl (Step.bd (r := .int .i64 ((4 * (i : Int)) + 2)) 69 (A.g 68 rfl) rfl (Bin.add (a := (4 * (i : Int))) (b := 2) p_11))) ?_
   refine .cons (fun E A => OpStep.plain rfl (Step.index (e := 5) (z := 1) (i := ((4 * (i : Int)) + 2)) (t := 70) rfl rfl p_24 p_7 (A.g 66 rfl) rfl rfl (lt_ok rfl) (A.g 69 rfl) p_6 p_35)) ?_
   refine .cons (fun E A => OpStep.plain rfl (Step.load (e := (.int .u8 (b.getD ((4 * (i : Int)) + 2).toNat 0))) (t := 71) rfl rfl p_24 p_7 (A.g 70 rfl) rfl)) ?_
   refine .cons (fun E A => OpStep.plain rfl (Step.conv (c := (b.getD ((4 * (i : Int)) + 2).toNat 0)) (t := 72) rfl rfl p_24 p_7 p_7 (A.g 71 rfl) (wrap_ok p_6 p_6))) ?_
   refine .cons (fun E A => OpStep.plain rfl (Step.bd (r := .int .i64 y8) 73 (A.g 72 rfl) rfl (Bin.shl (k := .i64) (k' := .u64) (a := (b.getD ((4 * (i : Int)) + 2).toNat 0)) (b := 8) p_6 (hy8_.symm)))) ?_
   refine .cons (fun E A => OpStep.plain rfl (Step.bd (r := .int .i64 (bor (bor y6 y7) y8)) 74 (A.g 65 rfl) (A.g 73 rfl) (Bin.or (k := .i64) (a := (bor y6 y7)) (b := y8) (rfl)))) ?_
   refine .cons (fun E A => A.mv 1 75) ?_
   refine .cons (fun E A => A.mv 10 76) ?_
   refine .cons (fun E A => OpStep.plain rfl (Step.bd (r := .int .i64 (4 * (i : Int))) 77 rfl (A.g 76 rfl) (Bin.mul (a := 4) (b := (i : Int)) p_11))) ?_
   refine .cons (fun E A => OpStep.plain rfl (Step.bd (r := .int .i64 ((4 * (i : Int)) + 3)) 78 (A.g 77 rfl) rfl (Bin.add (a := (4 * (i : Int))) (b := 3) p_11))) ?_
   refine .cons (fun E A => OpStep.plain rfl (Step.index (e := 5) (z := 1) (i := ((4 * (i : Int)) + 3)) (t := 79) rfl rfl p_24 p_7 (A.g 75 rfl) rfl rfl (lt_ok rfl) (A.g 78 rfl) p_6 p_35)) ?_
   refine .cons (fun E A => OpStep.plain rfl (Step.load (e := (.int .u8 (b.getD ((4 * (i : Int)) + 3).toNat 0))) (t := 80) rfl rfl p_24 p_7 (A.g 79 rfl) rfl)) ?_
   refine .cons (fun E A => OpStep.plain rfl (Step.conv (c := (b.getD ((4 * (i : Int)) + 3).toNat 0)) (t := 81) rfl rfl p_24 p_7 p_7 (A.g 80 rfl) (wrap_ok p_6 p_6))) ?_
   refine .cons (fun E A => OpStep.plain rfl (Step.bd (r := .int .i64 y9) 82 (A.g 74 rfl) (A.g 81 rfl) (Bin.or (k := .i64) (a := (bor (bor y6 y7) y8)) (b := (b.getD ((4 * (i : Int)) + 3).toNat 0)) (hy9_.symm)))) ?_
   refine .cons (fun E A => OpStep.plain rfl (Step.index_arr (d := (.ints .i64 (aI b i))) (e := 3) (n := 64) (z := 1) (i := (i : Int)) (t := 83) rfl rfl p_24 p_7 (A.g 7 rfl) p_89 (by first | exact hl_ | rfl) rfl (lt_ok rfl) (A.g 49 rfl) p_6 p_6)) ?_
   exact .nil _ _
  refine TL.c (Step.store_row (n := 1) (p := (pI y9)) (ps := [cI y9]) (es := [(.int .i64 y9)]) (ss := []) (d1 := (.ints .i64 ((aI b i).set i y9))) (d' := (.ints .i64 ((aI b i).set i y9))) rfl rfl p_7 rfl rfl rfl rfl rfl rfl (.val rfl .nil) p_105 (Putd.one rfl trivial rfl (by simp only [D.at_, D.size, List.length_set, upTo_length]; first | omega | (simp; omega) | (simp [w16_len, wN_len]; omega)) (lt_ok rfl)) rfl) ?_
  refine TL.nil (T.region ?_)
  refine TL.c (Step.bin (r := .int .i64 ((i : Int) + 1)) rfl rfl (lt_ok rfl) rfl rfl (Bin.add (a := (i : Int)) (b := 1) p_11)) ?_
  refine TL.rl [(46, (pI ((i : Int) + 1)))] [] ?_
  subst hy9_ hy8_ hy7_ hy6_
  refine ⟨i + 1, by omega, by first | omega | (dsimp only; omega), Env.le_mk ⟨rfl, rfl, rfl, rfl, rfl, ?_, trivial⟩ ⟨rfl, ?_, rfl, trivial⟩ trivial⟩ <;> exact p_72
 refine T.exit (T.seq ?_)
 refine T.sr [(11, (pI 16))] [] ?_
 refine T.block ?_
 refine T.loop (ι := Nat) (fun xx_ => { tm := [(0, (.one (.d (.ints .i64 h)))), (7, (.one (.rptr 7 [] 0 0))), (9, (.one (.rptr 9 [] 0 0))), (8, (.one (.row 1044 []))), (11, (pI (16 + (xx_ : Int))))], rows := [(1044, (3, (.ints .i64 shaK))), (7, (164, (.ints .i64 (wI b xx_)))), (9, (165, (.ints .i64 [0, 0, 0, 0, 0, 0, 0, 0])))], boxes := [] }) (fun xx_ => xx_ ≤ 48) (fun xx_ => 48 - xx_) 0 ?_ ?_ ?_
 · refine Env.le_mk ⟨rfl, rfl, rfl, rfl, ?_, trivial⟩ ⟨rfl, ?_, rfl, trivial⟩ trivial <;> exact p_63
 · exact Nat.zero_le _
 intro i hx
 try dsimp only at hx ⊢
 have hl_ := wI_len b hx
 have hW_ := wI_W h0_ i
 refine T.seq ?_
 refine T.sr [(86, (pB (decide ((16 + (i : Int)) < 64))))] [] ?_
 refine T.ci rfl (fun h10 => ?_) (fun h10 => ?_)
 ·refine T.skip (T.seq (T.block (T.seq ?_)))
  refine T.draw [⟨89, (pI (16 + (i : Int))), []⟩, ⟨90, (pI ((16 + (i : Int)) - 15)), []⟩, ⟨91, (.one (.rptr 7 [] ((16 + (i : Int)) - 15).toNat 0)), []⟩, ⟨92, (pI ((wI b i).getD ((16 + (i : Int)) - 15).toNat 0)), []⟩, ⟨93, (pI (16 + (i : Int))), []⟩, ⟨94, (pI ((16 + (i : Int)) - 2)), []⟩, ⟨95, (.one (.rptr 7 [] ((16 + (i : Int)) - 2).toNat 0)), []⟩, ⟨96, (pI ((wI b i).getD ((16 + (i : Int)) - 2).toNat 0)), []⟩, ⟨12, (pI ((wI b i).getD ((16 + (i : Int)) - 15).toNat 0)), []⟩, ⟨13, (pI ((wI b i).getD ((16 + (i : Int)) - 2).toNat 0)), []⟩] p_7 p_7 ?_ ?_
  ·refine .cons (fun E A => A.mv 11 89) ?_
   refine .cons (fun E A => OpStep.plain rfl (Step.bd (r := .int .i64 ((16 + (i : Int)) - 15)) 90 (A.g 89 rfl) rfl (Bin.sub (a := (16 + (i : Int))) (b := 15) p_11))) ?_
   refine .cons (fun E A => OpStep.plain rfl (Step.index_arr (d := (.ints .i64 (wI b i))) (e := 3) (n := 64) (z := 1) (i := ((16 + (i : Int)) - 15)) (t := 91) rfl rfl p_24 p_7 (A.g 7 rfl) p_89 (by first | exact hl_ | rfl) rfl (lt_ok rfl) (A.g 90 rfl) p_6 p_6)) ?_
   refine .cons (fun E A => OpStep.plain rfl (Step.load_row (c := cI ((wI b i).getD ((16 + (i : Int)) - 15).toNat 0)) (t := 92) rfl rfl p_24 p_7 (A.g 91 rfl) p_89 rfl)) ?_
   refine .cons (fun E A => A.mv 11 93) ?_
   refine .cons (fun E A => OpStep.plain rfl (Step.bd (r := .int .i64 ((16 + (i : Int)) - 2)) 94 (A.g 93 rfl) rfl (Bin.sub (a := (16 + (i : Int))) (b := 2) p_11))) ?_
   refine .cons (fun E A => OpStep.plain rfl (Step.index_arr (d := (.ints .i64 (wI b i))) (e := 3) (n := 64) (z := 1) (i := ((16 + (i : Int)) - 2)) (t := 95) rfl rfl p_24 p_7 (A.g 7 rfl) p_89 (by first | exact hl_ | rfl) rfl (lt_ok rfl) (A.g 94 rfl) p_6 p_6)) ?_
   refine .cons (fun E A => OpStep.plain rfl (Step.load_row (c := cI ((wI b i).getD ((16 + (i : Int)) - 2).toNat 0)) (t := 96) rfl rfl p_24 p_7 (A.g 95 rfl) p_89 rfl)) ?_
   refine .cons (fun E A => A.as 92 12) ?_
   refine .cons (fun E A => A.as 96 13) ?_
   exact .nil _ _
  refine TL.nil (T.sg ?_)
  refine TL.rx 1 [(97, (pI ((wI b i).getD ((16 + (i : Int)) - 15).toNat 0)))] [] ?_
  refine TL.c (Step.cz (ok_impl_TurnRight ((wI b i).getD ((16 + (i : Int)) - 15).toNat 0) 7 p_80 p_96)) ?_
  refine TL.rx 1 [(99, (pI ((wI b i).getD ((16 + (i : Int)) - 15).toNat 0)))] [] ?_
  refine TL.c (Step.cz (ok_impl_TurnRight ((wI b i).getD ((16 + (i : Int)) - 15).toNat 0) 18 p_80 p_96)) ?_
  obtain ⟨y11, hy11_⟩ : ∃ y_, y_ = bxor (turnW ((wI b i).getD ((16 + (i : Int)) - 15).toNat 0) 7) (turnW ((wI b i).getD ((16 + (i : Int)) - 15).toNat 0) 18) := ⟨_, rfl⟩
  refine TL.c (Step.bin (r := .int .i64 y11) rfl rfl (lt_ok rfl) rfl rfl (Bin.xor (k := .i64) (a := (turnW ((wI b i).getD ((16 + (i : Int)) - 15).toNat 0) 7)) (b := (turnW ((wI b i).getD ((16 + (i : Int)) - 15).toNat 0) 18)) (hy11_.symm))) ?_
  refine TL.rx 1 [(102, (pI ((wI b i).getD ((16 + (i : Int)) - 15).toNat 0)))] [] ?_
  obtain ⟨y12, hy12_⟩ : ∃ y_, y_ = bshr ((wI b i).getD ((16 + (i : Int)) - 15).toNat 0) 3 := ⟨_, rfl⟩
  refine TL.c (Step.bin (r := .int .i64 y12) rfl rfl (lt_ok rfl) rfl rfl (Bin.shr (k := .i64) (k' := .u64) (a := ((wI b i).getD ((16 + (i : Int)) - 15).toNat 0)) (b := 3) p_6 (hy12_.symm))) ?_
  refine TL.c (Step.bin (r := .int .i64 (bxor y11 y12)) rfl rfl (lt_ok rfl) rfl rfl (Bin.xor (k := .i64) (a := y11) (b := y12) (rfl))) ?_
  refine TL.rl [(14, (pI (bxor y11 y12)))] [] ?_
  refine T.sg ?_
  refine TL.rx 1 [(105, (pI ((wI b i).getD ((16 + (i : Int)) - 2).toNat 0)))] [] ?_
  refine TL.c (Step.cz (ok_impl_TurnRight ((wI b i).getD ((16 + (i : Int)) - 2).toNat 0) 17 p_80 p_96)) ?_
  refine TL.rx 1 [(107, (pI ((wI b i).getD ((16 + (i : Int)) - 2).toNat 0)))] [] ?_
  refine TL.c (Step.cz (ok_impl_TurnRight ((wI b i).getD ((16 + (i : Int)) - 2).toNat 0) 19 p_80 p_96)) ?_
  obtain ⟨y13, hy13_⟩ : ∃ y_, y_ = bxor (turnW ((wI b i).getD ((16 + (i : Int)) - 2).toNat 0) 17) (turnW ((wI b i).getD ((16 + (i : Int)) - 2).toNat 0) 19) := ⟨_, rfl⟩
  refine TL.c (Step.bin (r := .int .i64 y13) rfl rfl (lt_ok rfl) rfl rfl (Bin.xor (k := .i64) (a := (turnW ((wI b i).getD ((16 + (i : Int)) - 2).toNat 0) 17)) (b := (turnW ((wI b i).getD ((16 + (i : Int)) - 2).toNat 0) 19)) (hy13_.symm))) ?_
  refine TL.rx 1 [(110, (pI ((wI b i).getD ((16 + (i : Int)) - 2).toNat 0)))] [] ?_
  obtain ⟨y14, hy14_⟩ : ∃ y_, y_ = bshr ((wI b i).getD ((16 + (i : Int)) - 2).toNat 0) 10 := ⟨_, rfl⟩
  refine TL.c (Step.bin (r := .int .i64 y14) rfl rfl (lt_ok rfl) rfl rfl (Bin.shr (k := .i64) (k' := .u64) (a := ((wI b i).getD ((16 + (i : Int)) - 2).toNat 0)) (b := 10) p_6 (hy14_.symm))) ?_
  refine TL.c (Step.bin (r := .int .i64 (bxor y13 y14)) rfl rfl (lt_ok rfl) rfl rfl (Bin.xor (k := .i64) (a := y13) (b := y14) (rfl))) ?_
  refine TL.rl [(15, (pI (bxor y13 y14)))] [] ?_
  obtain ⟨y15, hy15_⟩ : ∃ y_, y_ = wadd ((wI b i).getD ((16 + (i : Int)) - 16).toNat 0) (bxor y11 y12) := ⟨_, rfl⟩
  obtain ⟨y16, hy16_⟩ : ∃ y_, y_ = wadd y15 ((wI b i).getD ((16 + (i : Int)) - 7).toNat 0) := ⟨_, rfl⟩
  obtain ⟨y17, hy17_⟩ : ∃ y_, y_ = band (wadd y16 (bxor y13 y14)) 4294967295 := ⟨_, rfl⟩
  refine T.draw [⟨113, (pI (16 + (i : Int))), []⟩, ⟨114, (pI (16 + (i : Int))), []⟩, ⟨115, (pI ((16 + (i : Int)) - 16)), []⟩, ⟨116, (.one (.rptr 7 [] ((16 + (i : Int)) - 16).toNat 0)), []⟩, ⟨117, (pI ((wI b i).getD ((16 + (i : Int)) - 16).toNat 0)), []⟩, ⟨118, (pI (bxor y11 y12)), []⟩, ⟨119, (pI y15), []⟩, ⟨120, (pI (16 + (i : Int))), []⟩, ⟨121, (pI ((16 + (i : Int)) - 7)), []⟩, ⟨122, (.one (.rptr 7 [] ((16 + (i : Int)) - 7).toNat 0)), []⟩, ⟨123, (pI ((wI b i).getD ((16 + (i : Int)) - 7).toNat 0)), []⟩, ⟨124, (pI y16), []⟩, ⟨125, (pI (bxor y13 y14)), []⟩, ⟨126, (pI (wadd y16 (bxor y13 y14))), []⟩, ⟨127, (pI y17), []⟩, ⟨128, (.one (.rptr 7 [] (16 + (i : Int)).toNat 0)), []⟩] p_7 p_7 ?_ ?_
  ·refine .cons (fun E A => A.mv 11 113) ?_
   refine .cons (fun E A => A.mv 11 114) ?_
   refine .cons (fun E A => OpStep.plain rfl (Step.bd (r := .int .i64 ((16 + (i : Int)) - 16)) 115 (A.g 114 rfl) rfl (Bin.sub (a := (16 + (i : Int))) (b := 16) p_11))) ?_
   refine .cons (fun E A => OpStep.plain rfl (Step.index_arr (d := (.ints .i64 (wI b i))) (e := 3) (n := 64) (z := 1) (i := ((16 + (i : Int)) - 16)) (t := 116) rfl rfl p_24 p_7 (A.g 7 rfl) p_89 (by first | exact hl_ | rfl) rfl (lt_ok rfl) (A.g 115 rfl) p_6 p_6)) ?_
   refine .cons (fun E A => OpStep.plain rfl (Step.load_row (c := cI ((wI b i).getD ((16 + (i : Int)) - 16).toNat 0)) (t := 117) rfl rfl p_24 p_7 (A.g 116 rfl) p_89 rfl)) ?_
   refine .cons (fun E A => A.mv 14 118) ?_
   refine .cons (fun E A => OpStep.plain rfl (Step.bd (r := .int .i64 y15) 119 (A.g 117 rfl) (A.g 118 rfl) (Bin.add (k := .i64) (a := ((wI b i).getD ((16 + (i : Int)) - 16).toNat 0)) (b := (bxor y11 y12)) (hy15_.symm)))) ?_
   refine .cons (fun E A => A.mv 11 120) ?_
   refine .cons (fun E A => OpStep.plain rfl (Step.bd (r := .int .i64 ((16 + (i : Int)) - 7)) 121 (A.g 120 rfl) rfl (Bin.sub (a := (16 + (i : Int))) (b := 7) p_11))) ?_
   refine .cons (fun E A => OpStep.plain rfl (Step.index_arr (d := (.ints .i64 (wI b i))) (e := 3) (n := 64) (z := 1) (i := ((16 + (i : Int)) - 7)) (t := 122) rfl rfl p_24 p_7 (A.g 7 rfl) p_89 (by first | exact hl_ | rfl) rfl (lt_ok rfl) (A.g 121 rfl) p_6 p_6)) ?_
   refine .cons (fun E A => OpStep.plain rfl (Step.load_row (c := cI ((wI b i).getD ((16 + (i : Int)) - 7).toNat 0)) (t := 123) rfl rfl p_24 p_7 (A.g 122 rfl) p_89 rfl)) ?_
   refine .cons (fun E A => OpStep.plain rfl (Step.bd (r := .int .i64 y16) 124 (A.g 119 rfl) (A.g 123 rfl) (Bin.add (k := .i64) (a := y15) (b := ((wI b i).getD ((16 + (i : Int)) - 7).toNat 0)) (hy16_.symm)))) ?_
   refine .cons (fun E A => A.mv 15 125) ?_
   refine .cons (fun E A => OpStep.plain rfl (Step.bd (r := .int .i64 (wadd y16 (bxor y13 y14))) 126 (A.g 124 rfl) (A.g 125 rfl) (Bin.add (k := .i64) (a := y16) (b := (bxor y13 y14)) (rfl)))) ?_
   refine .cons (fun E A => OpStep.plain rfl (Step.bd (r := .int .i64 y17) 127 (A.g 126 rfl) rfl (Bin.and (k := .i64) (a := (wadd y16 (bxor y13 y14))) (b := 4294967295) (hy17_.symm)))) ?_
   refine .cons (fun E A => OpStep.plain rfl (Step.index_arr (d := (.ints .i64 (wI b i))) (e := 3) (n := 64) (z := 1) (i := (16 + (i : Int))) (t := 128) rfl rfl p_24 p_7 (A.g 7 rfl) p_89 (by first | exact hl_ | rfl) rfl (lt_ok rfl) (A.g 113 rfl) p_6 p_6)) ?_
   exact .nil _ _
  refine TL.c (Step.store_row (n := 1) (p := (pI y17)) (ps := [cI y17]) (es := [(.int .i64 y17)]) (ss := []) (d1 := (.ints .i64 ((wI b i).set (16 + (i : Int)).toNat y17))) (d' := (.ints .i64 ((wI b i).set (16 + (i : Int)).toNat y17))) rfl rfl p_7 rfl rfl rfl rfl rfl rfl (.val rfl .nil) p_105 (Putd.one rfl trivial rfl (by simp only [D.at_, D.size, List.length_set, upTo_length]; first | omega | (simp; omega) | (simp [w16_len, wN_len]; omega)) (lt_ok rfl)) rfl) ?_
  refine TL.nil (T.region ?_)
  refine TL.rx 1 [(87, (pI (16 + (i : Int))))] [] ?_
  refine TL.c (Step.bin (r := .int .i64 ((16 + (i : Int)) + 1)) rfl rfl (lt_ok rfl) rfl rfl (Bin.add (a := (16 + (i : Int))) (b := 1) p_11)) ?_
  refine TL.rl [(11, (pI ((16 + (i : Int)) + 1)))] [] ?_
  subst hy17_ hy16_ hy15_ hy14_ hy13_ hy12_ hy11_
  refine ⟨i + 1, by omega, by first | omega | (dsimp only; omega), Env.le_mk ⟨rfl, rfl, rfl, rfl, ?_, trivial⟩ ⟨rfl, ?_, rfl, trivial⟩ trivial⟩ <;> exact p_63
 refine T.exit (T.sg ?_)
 refine TL.copyArr (e := 3) (n := 8) (t1 := 129) (t2 := 130) (t3 := 131) (r := 9) (xs := [0, 0, 0, 0, 0, 0, 0, 0]) (ys := h) rfl rfl rfl rfl rfl (lt_ok rfl) rfl rfl (lt_ok rfl) rfl rfl (lt_ok rfl) p_7 p_7 (by decide) rfl rfl p_59 rfl p_6 (by decide) ?_
 refine TL.nil (T.seq ?_)
 refine T.sr [(132, (pI 0))] [] ?_
 refine T.block ?_
 refine T.loop (ι := Nat) (fun xx_ => { tm := [(0, (.one (.d (.ints .i64 h)))), (7, (.one (.rptr 7 [] 0 0))), (9, (.one (.rptr 9 [] 0 0))), (8, (.one (.row 1044 []))), (132, (pI (xx_ : Int)))], rows := [(1044, (3, (.ints .i64 shaK))), (7, (164, (.ints .i64 (wI b 48)))), (9, (165, (.ints .i64 (vN h (wN b 48) xx_))))], boxes := [] }) (fun xx_ => xx_ ≤ 64) (fun xx_ => 64 - xx_) 0 ?_ ?_ ?_
 · refine Env.le_mk ⟨rfl, rfl, rfl, rfl, ?_, trivial⟩ ⟨rfl, ?_, ?_, trivial⟩ trivial <;> exact p_62
 · exact Nat.zero_le _
 intro i hx
 try dsimp only at hx ⊢
 have hl_ := wI_len b (i := 48) p_4
 have hvl_ := vN_len (h := h) (w := wN b 48) p_4 i
 have hkl_ : shaK.length = 64 := rfl
 have hV_ := vN_W (h := h) (w := wN b 48) hwo_ i
 have hwq_ : ∀ q, (wI b 48).getD q 0 = (wN b 48).getD q 0 := fun q => by rw [wI_all]
 refine T.sr [(133, (pB (decide ((i : Int) < 64))))] [] ?_
 refine T.seq ?_
 refine T.ci rfl (fun h18 => ?_) (fun h18 => ?_)
 ·refine T.skip (T.seq (T.block ?_))
  refine T.sr [(16, (pI (i : Int)))] [] ?_
  refine T.seq ?_
  refine T.draw [⟨135, (.one (.rptr 9 [] 4 0)), []⟩, ⟨136, (pI ((vN h (wN b 48) i).getD 4 0)), []⟩, ⟨137, (.one (.rptr 9 [] 0 0)), []⟩, ⟨138, (pI ((vN h (wN b 48) i).getD 0 0)), []⟩, ⟨17, (pI ((vN h (wN b 48) i).getD 4 0)), []⟩, ⟨18, (pI ((vN h (wN b 48) i).getD 0 0)), []⟩] p_7 p_7 ?_ ?_
  ·refine .cons (fun E A => OpStep.plain rfl (Step.index_arr (d := (.ints .i64 (vN h (wN b 48) i))) (e := 3) (n := 8) (z := 1) (i := 4) (t := 135) rfl rfl p_24 p_7 (A.g 9 rfl) p_108 p_59 rfl (lt_ok rfl) rfl p_6 p_6)) ?_
   refine .cons (fun E A => OpStep.plain rfl (Step.load_row (c := cI ((vN h (wN b 48) i).getD 4 0)) (t := 136) rfl rfl p_24 p_7 (A.g 135 rfl) p_108 rfl)) ?_
   refine .cons (fun E A => OpStep.plain rfl (Step.index_arr (d := (.ints .i64 (vN h (wN b 48) i))) (e := 3) (n := 8) (z := 1) (i := 0) (t := 137) rfl rfl p_24 p_7 (A.g 9 rfl) p_108 p_59 rfl (lt_ok rfl) rfl p_6 p_6)) ?_
   refine .cons (fun E A => OpStep.plain rfl (Step.load_row (c := cI ((vN h (wN b 48) i).getD 0 0)) (t := 138) rfl rfl p_24 p_7 (A.g 137 rfl) p_108 rfl)) ?_
   refine .cons (fun E A => A.as 136 17) ?_
   refine .cons (fun E A => A.as 138 18) ?_
   exact .nil _ _
  refine TL.nil (T.sg ?_)
  refine TL.rx 1 [(139, (pI ((vN h (wN b 48) i).getD 4 0)))] [] ?_
  refine TL.c (Step.index_arr (d := (.ints .i64 (vN h (wN b 48) i))) (e := 3) (n := 8) (z := 1) (i := 5) rfl rfl (lt_ok rfl) p_7 rfl rfl p_59 rfl (lt_ok rfl) rfl p_6 p_6) ?_
  refine TL.c (Step.load_row (c := cI ((vN h (wN b 48) i).getD 5 0)) rfl rfl (lt_ok rfl) p_7 rfl rfl rfl) ?_
  obtain ⟨y19, hy19_⟩ : ∃ y_, y_ = band ((vN h (wN b 48) i).getD 4 0) ((vN h (wN b 48) i).getD 5 0) := ⟨_, rfl⟩
  refine TL.c (Step.bin (r := .int .i64 y19) rfl rfl (lt_ok rfl) rfl rfl (Bin.and (k := .i64) (a := ((vN h (wN b 48) i).getD 4 0)) (b := ((vN h (wN b 48) i).getD 5 0)) (hy19_.symm))) ?_
  refine TL.rx 1 [(143, (pI ((vN h (wN b 48) i).getD 4 0)))] [] ?_
  obtain ⟨y20, hy20_⟩ : ∃ y_, y_ = bxor ((vN h (wN b 48) i).getD 4 0) 4294967295 := ⟨_, rfl⟩
  refine TL.c (Step.bin (r := .int .i64 y20) rfl rfl (lt_ok rfl) rfl rfl (Bin.xor (k := .i64) (a := ((vN h (wN b 48) i).getD 4 0)) (b := 4294967295) (hy20_.symm))) ?_
  refine TL.c (Step.index_arr (d := (.ints .i64 (vN h (wN b 48) i))) (e := 3) (n := 8) (z := 1) (i := 6) rfl rfl (lt_ok rfl) p_7 rfl rfl p_59 rfl (lt_ok rfl) rfl p_6 p_6) ?_
  refine TL.c (Step.load_row (c := cI ((vN h (wN b 48) i).getD 6 0)) rfl rfl (lt_ok rfl) p_7 rfl rfl rfl) ?_
  obtain ⟨y21, hy21_⟩ : ∃ y_, y_ = band y20 ((vN h (wN b 48) i).getD 6 0) := ⟨_, rfl⟩
  refine TL.c (Step.bin (r := .int .i64 y21) rfl rfl (lt_ok rfl) rfl rfl (Bin.and (k := .i64) (a := y20) (b := ((vN h (wN b 48) i).getD 6 0)) (hy21_.symm))) ?_
  refine TL.c (Step.bin (r := .int .i64 (bor y19 y21)) rfl rfl (lt_ok rfl) rfl rfl (Bin.or (k := .i64) (a := y19) (b := y21) (rfl))) ?_
  refine TL.rl [(19, (pI (bor y19 y21)))] [] ?_
  refine T.sg ?_
  refine TL.rx 1 [(149, (pI ((vN h (wN b 48) i).getD 0 0)))] [] ?_
  refine TL.c (Step.index_arr (d := (.ints .i64 (vN h (wN b 48) i))) (e := 3) (n := 8) (z := 1) (i := 1) rfl rfl (lt_ok rfl) p_7 rfl rfl p_59 rfl (lt_ok rfl) rfl p_6 p_6) ?_
  refine TL.c (Step.load_row (c := cI ((vN h (wN b 48) i).getD 1 0)) rfl rfl (lt_ok rfl) p_7 rfl rfl rfl) ?_
  obtain ⟨y22, hy22_⟩ : ∃ y_, y_ = band ((vN h (wN b 48) i).getD 0 0) ((vN h (wN b 48) i).getD 1 0) := ⟨_, rfl⟩
  refine TL.c (Step.bin (r := .int .i64 y22) rfl rfl (lt_ok rfl) rfl rfl (Bin.and (k := .i64) (a := ((vN h (wN b 48) i).getD 0 0)) (b := ((vN h (wN b 48) i).getD 1 0)) (hy22_.symm))) ?_
  refine TL.rx 1 [(153, (pI ((vN h (wN b 48) i).getD 0 0)))] [] ?_
  refine TL.c (Step.index_arr (d := (.ints .i64 (vN h (wN b 48) i))) (e := 3) (n := 8) (z := 1) (i := 2) rfl rfl (lt_ok rfl) p_7 rfl rfl p_59 rfl (lt_ok rfl) rfl p_6 p_6) ?_
  refine TL.c (Step.load_row (c := cI ((vN h (wN b 48) i).getD 2 0)) rfl rfl (lt_ok rfl) p_7 rfl rfl rfl) ?_
  obtain ⟨y23, hy23_⟩ : ∃ y_, y_ = band ((vN h (wN b 48) i).getD 0 0) ((vN h (wN b 48) i).getD 2 0) := ⟨_, rfl⟩
  refine TL.c (Step.bin (r := .int .i64 y23) rfl rfl (lt_ok rfl) rfl rfl (Bin.and (k := .i64) (a := ((vN h (wN b 48) i).getD 0 0)) (b := ((vN h (wN b 48) i).getD 2 0)) (hy23_.symm))) ?_
  refine TL.c (Step.bin (r := .int .i64 (bor y22 y23)) rfl rfl (lt_ok rfl) rfl rfl (Bin.or (k := .i64) (a := y22) (b := y23) (rfl))) ?_
  refine TL.c (Step.index_arr (d := (.ints .i64 (vN h (wN b 48) i))) (e := 3) (n := 8) (z := 1) (i := 1) rfl rfl (lt_ok rfl) p_7 rfl rfl p_59 rfl (lt_ok rfl) rfl p_6 p_6) ?_
  refine TL.c (Step.load_row (c := cI ((vN h (wN b 48) i).getD 1 0)) rfl rfl (lt_ok rfl) p_7 rfl rfl rfl) ?_
  refine TL.c (Step.index_arr (d := (.ints .i64 (vN h (wN b 48) i))) (e := 3) (n := 8) (z := 1) (i := 2) rfl rfl (lt_ok rfl) p_7 rfl rfl p_59 rfl (lt_ok rfl) rfl p_6 p_6) ?_
  refine TL.c (Step.load_row (c := cI ((vN h (wN b 48) i).getD 2 0)) rfl rfl (lt_ok rfl) p_7 rfl rfl rfl) ?_
  obtain ⟨y24, hy24_⟩ : ∃ y_, y_ = band ((vN h (wN b 48) i).getD 1 0) ((vN h (wN b 48) i).getD 2 0) := ⟨_, rfl⟩
  refine TL.c (Step.bin (r := .int .i64 y24) rfl rfl (lt_ok rfl) rfl rfl (Bin.and (k := .i64) (a := ((vN h (wN b 48) i).getD 1 0)) (b := ((vN h (wN b 48) i).getD 2 0)) (hy24_.symm))) ?_
  refine TL.c (Step.bin (r := .int .i64 (bor (bor y22 y23) y24)) rfl rfl (lt_ok rfl) rfl rfl (Bin.or (k := .i64) (a := (bor y22 y23)) (b := y24) (rfl))) ?_
  refine TL.rl [(20, (pI (bor (bor y22 y23) y24)))] [] ?_
  refine T.seq ?_
  obtain ⟨y25, hy25_⟩ : ∃ y_, y_ = bxor (turnW ((vN h (wN b 48) i).getD 4 0) 6) (turnW ((vN h (wN b 48) i).getD 4 0) 11) := ⟨_, rfl⟩
  obtain ⟨y26, hy26_⟩ : ∃ y_, y_ = bxor y25 (turnW ((vN h (wN b 48) i).getD 4 0) 25) := ⟨_, rfl⟩
  obtain ⟨y27, hy27_⟩ : ∃ y_, y_ = wadd ((vN h (wN b 48) i).getD 7 0) y26 := ⟨_, rfl⟩
  obtain ⟨y28, hy28_⟩ : ∃ y_, y_ = wadd (wadd y27 (bor y19 y21)) (shaK.getD i 0) := ⟨_, rfl⟩
  obtain ⟨y29, hy29_⟩ : ∃ y_, y_ = wadd y28 ((wI b 48).getD i 0) := ⟨_, rfl⟩
  refine T.draw [⟨164, (.one (.rptr 9 [] 7 0)), []⟩, ⟨165, (pI ((vN h (wN b 48) i).getD 7 0)), []⟩, ⟨166, (pI ((vN h (wN b 48) i).getD 4 0)), []⟩, ⟨167, (pI (turnW ((vN h (wN b 48) i).getD 4 0) 6)), []⟩, ⟨168, (pI ((vN h (wN b 48) i).getD 4 0)), []⟩, ⟨169, (pI (turnW ((vN h (wN b 48) i).getD 4 0) 11)), []⟩, ⟨170, (pI y25), []⟩, ⟨171, (pI ((vN h (wN b 48) i).getD 4 0)), []⟩, ⟨172, (pI (turnW ((vN h (wN b 48) i).getD 4 0) 25)), []⟩, ⟨173, (pI y26), []⟩, ⟨174, (pI y27), []⟩, ⟨175, (pI (bor y19 y21)), []⟩, ⟨176, (pI (wadd y27 (bor y19 y21))), []⟩, ⟨177, (.one (.row 1044 [])), []⟩, ⟨178, (pI (i : Int)), []⟩, ⟨179, (.one (.rptr 1044 [] i 0)), []⟩, ⟨180, (pI (shaK.getD i 0)), []⟩, ⟨181, (pI y28), []⟩, ⟨182, (pI (i : Int)), []⟩, ⟨183, (.one (.rptr 7 [] i 0)), []⟩, ⟨184, (pI ((wI b 48).getD i 0)), []⟩, ⟨185, (pI y29), []⟩, ⟨21, (pI y29), []⟩] p_7 p_7 ?_ ?_
  ·refine .cons (fun E A => OpStep.plain rfl (Step.index_arr (d := (.ints .i64 (vN h (wN b 48) i))) (e := 3) (n := 8) (z := 1) (i := 7) (t := 164) rfl rfl p_24 p_7 (A.g 9 rfl) p_108 p_59 rfl (lt_ok rfl) rfl p_6 p_6)) ?_
   refine .cons (fun E A => OpStep.plain rfl (Step.load_row (c := cI ((vN h (wN b 48) i).getD 7 0)) (t := 165) rfl rfl p_24 p_7 (A.g 164 rfl) p_108 rfl)) ?_
   refine .cons (fun E A => A.mv 17 166) ?_
   refine .cons (fun E A => OpStep.plain rfl (Step.cd (xs := [.tmp 166, .const (.int .i64 6)]) (ps := [(pI ((vN h (wN b 48) i).getD 4 0)), (pI 6)]) (g := .func 160) false 167 (evs_cons (A.g 166 rfl) (evs_cons rfl (rfl))) (.cons (.one (.d _)) (.cons (.one (.d _)) .nil)) (ok_impl_TurnRight ((vN h (wN b 48) i).getD 4 0) 6 p_80 p_96) (At.freshRows A rfl))) ?_
   refine .cons (fun E A => A.mv 17 168) ?_
   refine .cons (fun E A => OpStep.plain rfl (Step.cd (xs := [.tmp 168, .const (.int .i64 11)]) (ps := [(pI ((vN h (wN b 48) i).getD 4 0)), (pI 11)]) (g := .func 160) false 169 (evs_cons (A.g 168 rfl) (evs_cons rfl (rfl))) (.cons (.one (.d _)) (.cons (.one (.d _)) .nil)) (ok_impl_TurnRight ((vN h (wN b 48) i).getD 4 0) 11 p_80 p_96) (At.freshRows A rfl))) ?_
   refine .cons (fun E A => OpStep.plain rfl (Step.bd (r := .int .i64 y25) 170 (A.g 167 rfl) (A.g 169 rfl) (Bin.xor (k := .i64) (a := (turnW ((vN h (wN b 48) i).getD 4 0) 6)) (b := (turnW ((vN h (wN b 48) i).getD 4 0) 11)) (hy25_.symm)))) ?_
   refine .cons (fun E A => A.mv 17 171) ?_
   refine .cons (fun E A => OpStep.plain rfl (Step.cd (xs := [.tmp 171, .const (.int .i64 25)]) (ps := [(pI ((vN h (wN b 48) i).getD 4 0)), (pI 25)]) (g := .func 160) false 172 (evs_cons (A.g 171 rfl) (evs_cons rfl (rfl))) (.cons (.one (.d _)) (.cons (.one (.d _)) .nil)) (ok_impl_TurnRight ((vN h (wN b 48) i).getD 4 0) 25 p_80 p_96) (At.freshRows A rfl))) ?_
   refine .cons (fun E A => OpStep.plain rfl (Step.bd (r := .int .i64 y26) 173 (A.g 170 rfl) (A.g 172 rfl) (Bin.xor (k := .i64) (a := y25) (b := (turnW ((vN h (wN b 48) i).getD 4 0) 25)) (hy26_.symm)))) ?_
   refine .cons (fun E A => OpStep.plain rfl (Step.bd (r := .int .i64 y27) 174 (A.g 165 rfl) (A.g 173 rfl) (Bin.add (k := .i64) (a := ((vN h (wN b 48) i).getD 7 0)) (b := y26) (hy27_.symm)))) ?_
   refine .cons (fun E A => A.mv 19 175) ?_
   refine .cons (fun E A => OpStep.plain rfl (Step.bd (r := .int .i64 (wadd y27 (bor y19 y21))) 176 (A.g 174 rfl) (A.g 175 rfl) (Bin.add (k := .i64) (a := y27) (b := (bor y19 y21)) (rfl)))) ?_
   refine .cons (fun E A => A.mv 8 177) ?_
   refine .cons (fun E A => A.mv 16 178) ?_
   refine .cons (fun E A => OpStep.plain rfl (Step.index_row (e := 3) (z := 1) (i := (i : Int)) (t := 179) rfl rfl p_24 p_7 (A.g 177 rfl) (by exact (A.row 1044 (by kernel_rfl)).trans rfl) rfl rfl (lt_ok rfl) (A.g 178 rfl) p_6 p_70)) ?_
   refine .cons (fun E A => OpStep.plain rfl (Step.load_row (c := cI (shaK.getD i 0)) (t := 180) rfl rfl p_24 p_7 (A.g 179 rfl) (by exact (A.row 1044 (by kernel_rfl)).trans rfl) rfl)) ?_
   refine .cons (fun E A => OpStep.plain rfl (Step.bd (r := .int .i64 y28) 181 (A.g 176 rfl) (A.g 180 rfl) (Bin.add (k := .i64) (a := (wadd y27 (bor y19 y21))) (b := (shaK.getD i 0)) (hy28_.symm)))) ?_
   refine .cons (fun E A => A.mv 16 182) ?_
   refine .cons (fun E A => OpStep.plain rfl (Step.index_arr (d := (.ints .i64 (wI b 48))) (e := 3) (n := 64) (z := 1) (i := (i : Int)) (t := 183) rfl rfl p_24 p_7 (A.g 7 rfl) p_89 (by first | exact hl_ | rfl) rfl (lt_ok rfl) (A.g 182 rfl) p_6 p_6)) ?_
   refine .cons (fun E A => OpStep.plain rfl (Step.load_row (c := cI ((wI b 48).getD i 0)) (t := 184) rfl rfl p_24 p_7 (A.g 183 rfl) p_89 rfl)) ?_
   refine .cons (fun E A => OpStep.plain rfl (Step.bd (r := .int .i64 y29) 185 (A.g 181 rfl) (A.g 184 rfl) (Bin.add (k := .i64) (a := y28) (b := ((wI b 48).getD i 0)) (hy29_.symm)))) ?_
   refine .cons (fun E A => A.as 185 21) ?_
   exact .nil _ _
  refine TL.nil (T.sg ?_)
  refine TL.rx 1 [(186, (pI ((vN h (wN b 48) i).getD 0 0)))] [] ?_
  refine TL.c (Step.cz (ok_impl_TurnRight ((vN h (wN b 48) i).getD 0 0) 2 p_80 p_96)) ?_
  refine TL.rx 1 [(188, (pI ((vN h (wN b 48) i).getD 0 0)))] [] ?_
  refine TL.c (Step.cz (ok_impl_TurnRight ((vN h (wN b 48) i).getD 0 0) 13 p_80 p_96)) ?_
  obtain ⟨y30, hy30_⟩ : ∃ y_, y_ = bxor (turnW ((vN h (wN b 48) i).getD 0 0) 2) (turnW ((vN h (wN b 48) i).getD 0 0) 13) := ⟨_, rfl⟩
  refine TL.c (Step.bin (r := .int .i64 y30) rfl rfl (lt_ok rfl) rfl rfl (Bin.xor (k := .i64) (a := (turnW ((vN h (wN b 48) i).getD 0 0) 2)) (b := (turnW ((vN h (wN b 48) i).getD 0 0) 13)) (hy30_.symm))) ?_
  refine TL.rx 1 [(191, (pI ((vN h (wN b 48) i).getD 0 0)))] [] ?_
  refine TL.c (Step.cz (ok_impl_TurnRight ((vN h (wN b 48) i).getD 0 0) 22 p_80 p_96)) ?_
  obtain ⟨y31, hy31_⟩ : ∃ y_, y_ = bxor y30 (turnW ((vN h (wN b 48) i).getD 0 0) 22) := ⟨_, rfl⟩
  refine TL.c (Step.bin (r := .int .i64 y31) rfl rfl (lt_ok rfl) rfl rfl (Bin.xor (k := .i64) (a := y30) (b := (turnW ((vN h (wN b 48) i).getD 0 0) 22)) (hy31_.symm))) ?_
  refine TL.rx 1 [(194, (pI (bor (bor y22 y23) y24)))] [] ?_
  obtain ⟨y32, hy32_⟩ : ∃ y_, y_ = wadd y31 (bor (bor y22 y23) y24) := ⟨_, rfl⟩
  refine TL.c (Step.bin (r := .int .i64 y32) rfl rfl (lt_ok rfl) rfl rfl (Bin.add (k := .i64) (a := y31) (b := (bor (bor y22 y23) y24)) (hy32_.symm))) ?_
  refine TL.rl [(22, (pI y32))] [] ?_
  refine T.wk [(0, (.one (.d (.ints .i64 h)))), (7, (.one (.rptr 7 [] 0 0))), (9, (.one (.rptr 9 [] 0 0))), (8, (.one (.row 1044 []))), (132, (pI (i : Int))), (17, (pI ((vN h (wN b 48) i).getD 4 0))), (18, (pI ((vN h (wN b 48) i).getD 0 0))), (21, (pI y29)), (22, (pI y32))] [(1044, (3, (.ints .i64 shaK))), (7, (164, (.ints .i64 (wI b 48)))), (9, (165, (.ints .i64 (vN h (wN b 48) i))))] [] ?_
  refine T.region ?_
  refine TL.rx 2 [(196, (pI y29)), (197, (pI y32))] [] ?_
  refine TL.c (Step.bin (r := .int .i64 (wadd y29 y32)) rfl rfl (lt_ok rfl) rfl rfl (Bin.add (k := .i64) (a := y29) (b := y32) (rfl))) ?_
  obtain ⟨y33, hy33_⟩ : ∃ y_, y_ = band (wadd y29 y32) 4294967295 := ⟨_, rfl⟩
  refine TL.c (Step.bin (r := .int .i64 y33) rfl rfl (lt_ok rfl) rfl rfl (Bin.and (k := .i64) (a := (wadd y29 y32)) (b := 4294967295) (hy33_.symm))) ?_
  refine TL.rx 1 [(200, (pI ((vN h (wN b 48) i).getD 0 0)))] [] ?_
  refine TL.c (Step.index_arr (d := (.ints .i64 (vN h (wN b 48) i))) (e := 3) (n := 8) (z := 1) (i := 1) rfl rfl (lt_ok rfl) p_7 rfl rfl p_59 rfl (lt_ok rfl) rfl p_6 p_6) ?_
  refine TL.c (Step.load_row (c := cI ((vN h (wN b 48) i).getD 1 0)) rfl rfl (lt_ok rfl) p_7 rfl rfl rfl) ?_
  refine TL.c (Step.index_arr (d := (.ints .i64 (vN h (wN b 48) i))) (e := 3) (n := 8) (z := 1) (i := 2) rfl rfl (lt_ok rfl) p_7 rfl rfl p_59 rfl (lt_ok rfl) rfl p_6 p_6) ?_
  refine TL.c (Step.load_row (c := cI ((vN h (wN b 48) i).getD 2 0)) rfl rfl (lt_ok rfl) p_7 rfl rfl rfl) ?_
  refine TL.c (Step.index_arr (d := (.ints .i64 (vN h (wN b 48) i))) (e := 3) (n := 8) (z := 1) (i := 3) rfl rfl (lt_ok rfl) p_7 rfl rfl p_59 rfl (lt_ok rfl) rfl p_6 p_6) ?_
  refine TL.c (Step.load_row (c := cI ((vN h (wN b 48) i).getD 3 0)) rfl rfl (lt_ok rfl) p_7 rfl rfl rfl) ?_
  refine TL.rx 1 [(207, (pI y29))] [] ?_
  obtain ⟨y34, hy34_⟩ : ∃ y_, y_ = wadd ((vN h (wN b 48) i).getD 3 0) y29 := ⟨_, rfl⟩
  refine TL.c (Step.bin (r := .int .i64 y34) rfl rfl (lt_ok rfl) rfl rfl (Bin.add (k := .i64) (a := ((vN h (wN b 48) i).getD 3 0)) (b := y29) (hy34_.symm))) ?_
  refine TL.c (Step.bin (r := .int .i64 (band y34 4294967295)) rfl rfl (lt_ok rfl) rfl rfl (Bin.and (k := .i64) (a := y34) (b := 4294967295) (rfl))) ?_
  refine TL.rx 1 [(210, (pI ((vN h (wN b 48) i).getD 4 0)))] [] ?_
  refine TL.c (Step.index_arr (d := (.ints .i64 (vN h (wN b 48) i))) (e := 3) (n := 8) (z := 1) (i := 5) rfl rfl (lt_ok rfl) p_7 rfl rfl p_59 rfl (lt_ok rfl) rfl p_6 p_6) ?_
  refine TL.c (Step.load_row (c := cI ((vN h (wN b 48) i).getD 5 0)) rfl rfl (lt_ok rfl) p_7 rfl rfl rfl) ?_
  refine TL.c (Step.index_arr (d := (.ints .i64 (vN h (wN b 48) i))) (e := 3) (n := 8) (z := 1) (i := 6) rfl rfl (lt_ok rfl) p_7 rfl rfl p_59 rfl (lt_ok rfl) rfl p_6 p_6) ?_
  refine TL.c (Step.load_row (c := cI ((vN h (wN b 48) i).getD 6 0)) rfl rfl (lt_ok rfl) p_7 rfl rfl rfl) ?_
  refine TL.c (Step.buildArr (zs := List.replicate 8 (.int .i64 0)) (size := 1) (pss := [(0, [cI y33]), (1, [cI ((vN h (wN b 48) i).getD 0 0)]), (2, [cI ((vN h (wN b 48) i).getD 1 0)]), (3, [cI ((vN h (wN b 48) i).getD 2 0)]), (4, [cI (band y34 4294967295)]), (5, [cI ((vN h (wN b 48) i).getD 4 0)]), (6, [cI ((vN h (wN b 48) i).getD 5 0)]), (7, [cI ((vN h (wN b 48) i).getD 6 0)])]) (ps' := [cI y33, cI ((vN h (wN b 48) i).getD 0 0), cI ((vN h (wN b 48) i).getD 1 0), cI ((vN h (wN b 48) i).getD 2 0), cI (band y34 4294967295), cI ((vN h (wN b 48) i).getD 4 0), cI ((vN h (wN b 48) i).getD 5 0), cI ((vN h (wN b 48) i).getD 6 0)]) rfl rfl (lt_ok rfl) p_7 (.cons ⟨rfl, rfl⟩ (.cons ⟨rfl, rfl⟩ (.cons ⟨rfl, rfl⟩ (.cons ⟨rfl, rfl⟩ (.cons ⟨rfl, rfl⟩ (.cons ⟨rfl, rfl⟩ (.cons ⟨rfl, rfl⟩ (.cons ⟨rfl, rfl⟩ .nil)))))))) rfl p_7 p_7) ?_
  refine TL.c (Step.store_row (n := 8) (p := (.agg [cI y33, cI ((vN h (wN b 48) i).getD 0 0), cI ((vN h (wN b 48) i).getD 1 0), cI ((vN h (wN b 48) i).getD 2 0), cI (band y34 4294967295), cI ((vN h (wN b 48) i).getD 4 0), cI ((vN h (wN b 48) i).getD 5 0), cI ((vN h (wN b 48) i).getD 6 0)])) (ps := [cI y33, cI ((vN h (wN b 48) i).getD 0 0), cI ((vN h (wN b 48) i).getD 1 0), cI ((vN h (wN b 48) i).getD 2 0), cI (band y34 4294967295), cI ((vN h (wN b 48) i).getD 4 0), cI ((vN h (wN b 48) i).getD 5 0), cI ((vN h (wN b 48) i).getD 6 0)]) (es := [(.int .i64 y33), (.int .i64 ((vN h (wN b 48) i).getD 0 0)), (.int .i64 ((vN h (wN b 48) i).getD 1 0)), (.int .i64 ((vN h (wN b 48) i).getD 2 0)), (.int .i64 (band y34 4294967295)), (.int .i64 ((vN h (wN b 48) i).getD 4 0)), (.int .i64 ((vN h (wN b 48) i).getD 5 0)), (.int .i64 ((vN h (wN b 48) i).getD 6 0))]) (ss := []) (d1 := (.ints .i64 [y33, (vN h (wN b 48) i).getD 0 0, (vN h (wN b 48) i).getD 1 0, (vN h (wN b 48) i).getD 2 0, band y34 4294967295, (vN h (wN b 48) i).getD 4 0, (vN h (wN b 48) i).getD 5 0, (vN h (wN b 48) i).getD 6 0])) (d' := (.ints .i64 [y33, (vN h (wN b 48) i).getD 0 0, (vN h (wN b 48) i).getD 1 0, (vN h (wN b 48) i).getD 2 0, band y34 4294967295, (vN h (wN b 48) i).getD 4 0, (vN h (wN b 48) i).getD 5 0, (vN h (wN b 48) i).getD 6 0])) rfl rfl p_7 rfl rfl rfl rfl rfl rfl (.val rfl (.val rfl (.val rfl (.val rfl (.val rfl (.val rfl (.val rfl (.val rfl .nil)))))))) p_105 (by have h_ := Putd.all (k := .i64) (xs := vN h (wN b 48) i) (ys := [y33, (vN h (wN b 48) i).getD 0 0, (vN h (wN b 48) i).getD 1 0, (vN h (wN b 48) i).getD 2 0, band y34 4294967295, (vN h (wN b 48) i).getD 4 0, (vN h (wN b 48) i).getD 5 0, (vN h (wN b 48) i).getD 6 0]) (by first | exact hvl_ | exact hvl_.symm | rfl | (simp; done)); exact h_) rfl) ?_
  refine TL.nil (T.region ?_)
  refine TL.c (Step.bin (r := .int .i64 ((i : Int) + 1)) rfl rfl (lt_ok rfl) rfl rfl (Bin.add (a := (i : Int)) (b := 1) p_11)) ?_
  refine TL.rl [(132, (pI ((i : Int) + 1)))] [] ?_
  subst hy34_ hy33_ hy32_ hy31_ hy30_ hy29_ hy28_ hy27_ hy26_ hy25_ hy24_ hy23_ hy22_ hy21_ hy20_ hy19_
  refine ⟨i + 1, by omega, by first | omega | (dsimp only; omega), Env.le_mk ⟨rfl, rfl, rfl, rfl, ?_, trivial⟩ ⟨rfl, rfl, ?_, trivial⟩ trivial⟩ <;> exact p_62
 refine T.exit (T.sg ?_)
 refine TL.c (Step.lt 3 1 8 [] [] (.ints .i64 [])) ?_
 refine TL.rl [(23, (.one (.row 217 [])))] [] ?_
 refine T.seq ?_
 refine T.sr [(218, (pI 0))] [] ?_
 refine T.block ?_
 refine T.loop (ι := Nat) (fun xx_ => { tm := [(0, (.one (.d (.ints .i64 h)))), (9, (.one (.rptr 9 [] 0 0))), (218, (pI (xx_ : Int))), (23, (.one (.row 217 [])))], rows := [(1044, (3, (.ints .i64 shaK))), (9, (165, (.ints .i64 (vN h (wN b 48) 64)))), (217, (3, (.ints .i64 (outs h (vN h (wN b 48) 64) xx_))))], boxes := [] }) (fun xx_ => xx_ ≤ 8) (fun xx_ => 8 - xx_) 0 ?_ ?_ ?_
 · refine Env.le_mk ⟨rfl, rfl, ?_, rfl, trivial⟩ ⟨rfl, ?_, ?_, trivial⟩ trivial <;> exact p_45
 · exact Nat.zero_le _
 intro i hx
 try dsimp only at hx ⊢
 have hvl_ := vN_len (h := h) (w := wN b 48) p_4 64
 have hol_ := outs_len h (vN h (wN b 48) 64) i
 refine T.sr [(219, (pB (decide ((i : Int) < 8))))] [] ?_
 refine T.seq ?_
 refine T.ci rfl (fun h35 => ?_) (fun h35 => ?_)
 ·refine T.skip (T.seq (T.block ?_))
  refine T.sr [(24, (pI (i : Int)))] [] ?_
  obtain ⟨y36, hy36_⟩ : ∃ y_, y_ = wadd (h.getD i 0) ((vN h (wN b 48) 64).getD i 0) := ⟨_, rfl⟩
  refine T.draw [⟨221, (.one (.row 217 [])), []⟩, ⟨222, (.one (.d (.ints .i64 h))), []⟩, ⟨223, (pI (i : Int)), []⟩, ⟨224, (.one (.eptr (.ints .i64 h) i 0)), []⟩, ⟨225, (pI (h.getD i 0)), []⟩, ⟨226, (pI (i : Int)), []⟩, ⟨227, (.one (.rptr 9 [] i 0)), []⟩, ⟨228, (pI ((vN h (wN b 48) 64).getD i 0)), []⟩, ⟨229, (pI y36), []⟩, ⟨230, (pI (band y36 4294967295)), []⟩, ⟨231, (.one (.d (.ints .i64 [band y36 4294967295]))), []⟩] p_7 p_7 ?_ ?_
  ·refine .cons (fun E A => A.mv 23 221) ?_
   refine .cons (fun E A => A.mv 0 222) ?_
   refine .cons (fun E A => A.mv 24 223) ?_
   refine .cons (fun E A => OpStep.plain rfl (Step.index (e := 3) (z := 1) (i := (i : Int)) (t := 224) rfl rfl p_24 p_7 (A.g 222 rfl) rfl rfl (lt_ok rfl) (A.g 223 rfl) p_6 p_35)) ?_
   refine .cons (fun E A => OpStep.plain rfl (Step.load (e := (.int .i64 (h.getD i 0))) (t := 225) rfl rfl p_24 p_7 (A.g 224 rfl) rfl)) ?_
   refine .cons (fun E A => A.mv 24 226) ?_
   refine .cons (fun E A => OpStep.plain rfl (Step.index_arr (d := (.ints .i64 (vN h (wN b 48) 64))) (e := 3) (n := 8) (z := 1) (i := (i : Int)) (t := 227) rfl rfl p_24 p_7 (A.g 9 rfl) p_108 p_59 rfl (lt_ok rfl) (A.g 226 rfl) p_6 p_6)) ?_
   refine .cons (fun E A => OpStep.plain rfl (Step.load_row (c := cI ((vN h (wN b 48) 64).getD i 0)) (t := 228) rfl rfl p_24 p_7 (A.g 227 rfl) p_108 rfl)) ?_
   refine .cons (fun E A => OpStep.plain rfl (Step.bd (r := .int .i64 y36) 229 (A.g 225 rfl) (A.g 228 rfl) (Bin.add (k := .i64) (a := (h.getD i 0)) (b := ((vN h (wN b 48) 64).getD i 0)) (hy36_.symm)))) ?_
   refine .cons (fun E A => OpStep.plain rfl (Step.bd (r := .int .i64 (band y36 4294967295)) 230 (A.g 229 rfl) rfl (Bin.and (k := .i64) (a := y36) (b := 4294967295) (rfl)))) ?_
   refine .cons (fun E A => OpStep.plain rfl (Step.lit_d (e := 3) (z := 1) (by_ := 8) (xs := [.tmp 230]) (pss := [[cI (band y36 4294967295)]]) (ds := [(.int .i64 (band y36 4294967295))]) (d := (.ints .i64 [band y36 4294967295])) (t := 231) rfl rfl p_24 p_7 rfl rfl (.cons (by exact (congrArg PV.flat (A.g 230 rfl)).trans rfl) .nil) p_105 (le_ok rfl) (le_ok rfl) rfl rfl trivial rfl rfl)) ?_
   exact .nil _ _
  refine TL.c (Step.ap 3 1 8 (.ints .i64 [band y36 4294967295]) (.ints .i64 ((outs h (vN h (wN b 48) 64) i) ++ [band y36 4294967295])) (.froz rfl p_91)) ?_
  refine TL.rl [(23, (.one (.row 217 [])))] [] ?_
  refine T.region ?_
  refine TL.c (Step.bin (r := .int .i64 ((i : Int) + 1)) rfl rfl (lt_ok rfl) rfl rfl (Bin.add (a := (i : Int)) (b := 1) p_11)) ?_
  refine TL.rl [(218, (pI ((i : Int) + 1)))] [] ?_
  subst hy36_
  refine ⟨i + 1, by omega, by first | omega | (dsimp only; omega), Env.le_mk ⟨rfl, rfl, ?_, rfl, trivial⟩ ⟨rfl, rfl, ?_, trivial⟩ trivial⟩ <;> exact p_45
 refine T.exit ?_
 refine T.sr [(4, (.one (.row 217 [])))] [] ?_
 refine T.ret ?_
 refine ⟨_, (.cons rfl .nil), rfl, _, (.o ?_ .nil)⟩ <;> exact p_26
theorem ok_impl_Sha (b : List Int) (h0_ : U8s b) (h1_ : b.length ≤ 17592186040000) : RO Tryz.prog 140 [.one (.ints .u8 b)] [(false, [.own 5 (.ints .u8 (sha b))])] := by
 refine RO.intro Tryz.func140 rfl 48 rfl (le_ok rfl) fun w Z => ?_
 refine T.bnd 0 0 rfl rfl fun hb_0_0 => ?_
 simp only [D.size, List.length_map] at hb_0_0
 refine T.sr [(2, (.one (.nil)))] [] ?_
 refine T.sg ?_
 refine TL.c (Step.cz (ok_impl_ShaInit )) ?_
 refine TL.rx 1 [(10, (pS b))] [] ?_
 have nn1 := shaPad_mod b
 refine TL.c (Step.cz (ok_impl_ShaPad b p_1)) ?_
 refine TL.rx 1 [(3, (.one (.row 1009 [])))] [] ?_
 refine TL.freeze (r := 1011) rfl (fun _ h => h) ?_
 refine TL.rx 1 [(4, (pS (shaPad b)))] [] ?_
 refine TL.ren 1009 600003 rfl p_105 ?_
 refine TL.nil (T.seq ?_)
 refine T.sr [(5, (pI 0))] [] ?_
 refine T.block ?_
 refine T.loop (ι := Nat) (fun xx_ => { tm := [(2, (.one (.nil))), (4, (pS (shaPad b))), (5, (pI (64 * (xx_ : Int)))), (3, (.one (.row 600003 [])))], rows := [(600003, (3, (.ints .i64 (hN (shaPad b) xx_))))], boxes := [] }) (fun xx_ => 64 * xx_ ≤ (shaPad b).length) (fun xx_ => (shaPad b).length - 64 * xx_) 0 ?_ ?_ ?_
 · refine Env.le_mk ⟨rfl, rfl, ?_, rfl, trivial⟩ ⟨?_, trivial⟩ trivial <;> exact p_12
 · exact Nat.zero_le _
 intro i hx
 try dsimp only at hx ⊢
 have hu_ := u8_sub (shaPad_u8 h0_)
 refine T.seq (T.sg ?_)
 refine TL.rx 2 [(12, (pI (64 * (i : Int)))), (13, (pS (shaPad b)))] [] ?_
 refine TL.c (Step.ln 5 1 (.ints .u8 (shaPad b))) ?_
 refine TL.rl [(15, (pB (decide ((64 * (i : Int)) < ((shaPad b).length : Int)))))] [] ?_
 refine T.ci rfl (fun h2 => ?_) (fun h2 => ?_)
 ·refine T.skip (T.seq (T.block (T.region ?_)))
  refine TL.rx 4 [(18, (.one (.row 600003 []))), (19, (pS (shaPad b))), (20, (pI (64 * (i : Int)))), (21, (pI (64 * (i : Int))))] [] ?_
  refine TL.ad ((64 * (i : Int)) + 64) ?_
  refine TL.c (Step.slice (e := 5) (z := 1) (l := (64 * (i : Int)).toNat) (h := ((64 * (i : Int)) + 64).toNat) rfl rfl (lt_ok rfl) p_7 rfl rfl rfl ((.some (i := (64 * (i : Int))) rfl p_23)) ((.some (i := ((64 * (i : Int)) + 64)) rfl p_23)) p_23 p_47 rfl) ?_
  have nn3 := shaBlock_len (hN (shaPad b) i) (((shaPad b).drop (64 * (i : Int)).toNat).take (((64 * (i : Int)) + 64).toNat - (64 * (i : Int)).toNat))
  refine TL.c (Step.cz (ok_impl_ShaBlock (hN (shaPad b) i) (((shaPad b).drop (64 * (i : Int)).toNat).take (((64 * (i : Int)) + 64).toNat - (64 * (i : Int)).toNat)) (by first | assumption | exact hu_ _ _))) ?_
  refine TL.rx 1 [(3, (.one (.row 1024 [])))] [] ?_
  refine TL.weaken (Env.drops_le [600003] _) ?_
  refine TL.ren 1024 600003 rfl p_105 ?_
  refine TL.nil (T.region ?_)
  refine TL.rx 1 [(16, (pI (64 * (i : Int))))] [] ?_
  refine TL.ad ((64 * (i : Int)) + 64) ?_
  refine TL.rl [(5, (pI ((64 * (i : Int)) + 64)))] [] ?_
  refine ⟨i + 1, by omega, by first | omega | (dsimp only; omega), Env.le_mk ⟨rfl, rfl, ?_, rfl, trivial⟩ ⟨?_, trivial⟩ trivial⟩ <;> exact p_12
 refine T.exit (T.sg ?_)
 refine TL.c (Step.lt 5 1 1 [] [] (.ints .u8 [])) ?_
 refine TL.rl [(6, (.one (.row 25 [])))] [] ?_
 refine T.seq (T.sg ?_)
 refine TL.rx 1 [(26, (.one (.row 600003 [])))] [] ?_
 refine TL.c (Step.ln 3 1 (.ints .i64 (hN (shaPad b) i))) ?_
 refine TL.rl [(28, (pI 0))] [] ?_
 refine T.block ?_
 refine T.loop (ι := Nat) (fun xx_ => { tm := [(2, (.one (.nil))), (26, (.one (.row 600003 []))), (27, (pI ((shaH b).length : Int))), (28, (pI (xx_ : Int))), (6, (.one (.row 25 [])))], rows := [(600003, (3, (.ints .i64 (shaH b)))), (25, (5, (.ints .u8 (outB (shaH b) xx_))))], boxes := [] }) (fun xx_ => xx_ ≤ (shaH b).length) (fun xx_ => (shaH b).length - xx_) 0 ?_ ?_ ?_
 · refine Env.le_mk ⟨rfl, rfl, ?_, ?_, rfl, trivial⟩ ⟨?_, ?_, trivial⟩ trivial <;> exact p_51
 · exact Nat.zero_le _
 intro i hx
 try dsimp only at hx ⊢
 have hl_ := outB_len (shaH b) i
 have hh_ : (shaH b).length ≤ 8 := hN_len _ _
 refine T.sr [(29, (pB (decide ((i : Int) < ((shaH b).length : Int)))))] [] ?_
 refine T.seq ?_
 refine T.ci rfl (fun h4 => ?_) (fun h4 => ?_)
 ·refine T.skip (T.seq (T.block (T.sg ?_)))
  refine TL.c (Step.index_row (e := 3) (z := 1) (i := (i : Int)) rfl rfl (lt_ok rfl) p_7 rfl rfl rfl rfl (lt_ok rfl) rfl p_23 p_99) ?_
  refine TL.c (Step.load_row (c := cI ((shaH b).getD i 0)) rfl rfl (lt_ok rfl) p_7 rfl rfl rfl) ?_
  refine TL.rl [(8, (pI ((shaH b).getD i 0)))] [] ?_
  refine T.region ?_
  refine TL.rx 2 [(32, (.one (.row 25 []))), (33, (pI ((shaH b).getD i 0)))] [] ?_
  refine TL.c (Step.bin (r := .int .i64 (bshr ((shaH b).getD i 0) 24)) rfl rfl (lt_ok rfl) rfl rfl (Bin.shr (k := .i64) (k' := .u64) (a := ((shaH b).getD i 0)) (b := 24) p_23 (rfl))) ?_
  refine TL.c (Step.conv (c := ((bshr ((shaH b).getD i 0) 24) % 256)) rfl rfl (lt_ok rfl) p_7 p_7 rfl (wrap_byte _)) ?_
  refine TL.rx 1 [(36, (pI ((shaH b).getD i 0)))] [] ?_
  refine TL.c (Step.bin (r := .int .i64 (bshr ((shaH b).getD i 0) 16)) rfl rfl (lt_ok rfl) rfl rfl (Bin.shr (k := .i64) (k' := .u64) (a := ((shaH b).getD i 0)) (b := 16) p_23 (rfl))) ?_
  refine TL.c (Step.conv (c := ((bshr ((shaH b).getD i 0) 16) % 256)) rfl rfl (lt_ok rfl) p_7 p_7 rfl (wrap_byte _)) ?_
  refine TL.rx 1 [(39, (pI ((shaH b).getD i 0)))] [] ?_
  refine TL.c (Step.bin (r := .int .i64 (bshr ((shaH b).getD i 0) 8)) rfl rfl (lt_ok rfl) rfl rfl (Bin.shr (k := .i64) (k' := .u64) (a := ((shaH b).getD i 0)) (b := 8) p_23 (rfl))) ?_
  refine TL.c (Step.conv (c := ((bshr ((shaH b).getD i 0) 8) % 256)) rfl rfl (lt_ok rfl) p_7 p_7 rfl (wrap_byte _)) ?_
  refine TL.rx 1 [(42, (pI ((shaH b).getD i 0)))] [] ?_
  refine TL.c (Step.conv (c := (((shaH b).getD i 0) % 256)) rfl rfl (lt_ok rfl) p_7 p_7 rfl (wrap_byte _)) ?_
  refine TL.c (Step.lt 5 1 1 [.tmp 35, .tmp 38, .tmp 41, .tmp 43] [[.d (.int .u8 ((bshr ((shaH b).getD i 0) 24) % 256))], [.d (.int .u8 ((bshr ((shaH b).getD i 0) 16) % 256))], [.d (.int .u8 ((bshr ((shaH b).getD i 0) 8) % 256))], [.d (.int .u8 (((shaH b).getD i 0) % 256))]] (.ints .u8 [(bshr ((shaH b).getD i 0) 24) % 256, (bshr ((shaH b).getD i 0) 16) % 256, (bshr ((shaH b).getD i 0) 8) % 256, ((shaH b).getD i 0) % 256])) ?_
  refine TL.c (Step.ap 5 1 1 (.ints .u8 [(bshr ((shaH b).getD i 0) 24) % 256, (bshr ((shaH b).getD i 0) 16) % 256, (bshr ((shaH b).getD i 0) 8) % 256, ((shaH b).getD i 0) % 256]) (.ints .u8 ((outB (shaH b) i) ++ [(bshr ((shaH b).getD i 0) 24) % 256, (bshr ((shaH b).getD i 0) 16) % 256, (bshr ((shaH b).getD i 0) 8) % 256, ((shaH b).getD i 0) % 256])) (.copy rfl rfl rfl p_91)) ?_
  refine TL.rl [(6, (.one (.row 25 [])))] [] ?_
  refine T.region ?_
  refine TL.ad ((i : Int) + 1) ?_
  refine TL.rl [(28, (pI ((i : Int) + 1)))] [] ?_
  refine ⟨i + 1, by omega, by first | omega | (dsimp only; omega), Env.le_mk ⟨rfl, rfl, rfl, ?_, rfl, trivial⟩ ⟨rfl, ?_, trivial⟩ trivial⟩ <;> exact p_51
 refine T.exit ?_
 refine T.sr [(2, (.one (.row 25 [])))] [] ?_
 refine T.ret ?_
 exact p_166
theorem ok_impl_LeafHash (x : List Int) (h0_ : U8s x) (h1_ : x.length ≤ 17592186030000) : RO Tryz.prog 141 [.one (.ints .u8 x)] [(false, [.own 5 (.ints .u8 (leafHash x))])] := by
 refine RO.intro Tryz.func141 rfl 7 rfl (le_ok rfl) fun w Z => ?_
 refine T.bnd 0 0 rfl rfl fun hb_0_0 => ?_
 simp only [D.size, List.length_map] at hb_0_0
 refine T.sr [(2, (.one (.nil)))] [] ?_
 refine T.sg ?_
 refine TL.c (Step.lt 5 1 1 [.const (.int .u8 0)] [[.d (.int .u8 0)]] (.ints .u8 [0])) ?_
 refine TL.rx 1 [(4, (pS x))] [] ?_
 refine TL.c (Step.ap 5 1 1 (.ints .u8 x) (.ints .u8 ([0] ++ x)) (.froz rfl p_91)) ?_
 have nn1 := sha_len ([0] ++ x)
 have nn2 := sha_u8 ([0] ++ x)
 refine TL.c (Step.cz (ok_impl_Sha ([0] ++ x) p_37 p_75)) ?_
 refine TL.rl [(2, (.one (.row 1006 [])))] [] ?_
 refine T.ret ?_
 exact p_131
theorem ok_impl_SplitAt (n : Int) (h0_ : n ≤ 9223372036854775807) : RO Tryz.prog 142 [.one (.int .i64 n)] [(false, [.rd (.int .i64 (ah n))])] := by
 refine RO.intro Tryz.func142 rfl 14 rfl (le_ok rfl) fun w Z => ?_
 refine T.sr [(2, (pI 0))] [] ?_
 refine T.seq ?_
 refine T.sr [(5, (pB (decide (n < 2))))] [] ?_
 refine T.ci rfl (fun h1 => ?_) (fun h1 => ?_)
 ·refine T.sr [(2, (pI 0))] [] ?_
  refine T.ret ?_
  exact p_160
 refine T.skip ?_
 refine T.sr [(3, (pI 1))] [] ?_
 refine T.seq (T.block ?_)
 refine T.loop (ι := Nat × Int) (fun xx_ => { tm := [(0, (pI n)), (2, (pI 0)), (3, (pI (xx_.2)))], rows := [], boxes := [] }) (fun xx_ => 1 ≤ (xx_.2) ∧ (xx_.2) < n ∧ n ≤ (xx_.2) + (xx_.1) ∧ splitGo (xx_.1) n (xx_.2) = splitAt n) (fun xx_ => (xx_.1)) (n.toNat, 1) ?_ ?_ ?_
 · refine Env.le_mk ⟨rfl, rfl, ?_, trivial⟩ trivial trivial <;> exact p_109
 · (dsimp only; refine ⟨by omega, by omega, by omega, rfl⟩)
 intro xx_ hx
 obtain ⟨d, x⟩ := xx_
 try dsimp only at hx ⊢
 obtain ⟨hx1, hx2, hx3, hx4⟩ := hx
 obtain ⟨d', rfl⟩ : ∃ d', d = d' + 1 := ⟨d - 1, by omega⟩
 unfold splitGo at hx4
 refine T.seq (T.sg ?_)
 refine TL.rx 3 [(6, (pI x)), (7, (pI n)), (8, (pI x))] [] ?_
 refine TL.sb (n - x) ?_
 refine TL.rl [(10, (pB (decide (x < (n - x)))))] [] ?_
 refine T.ci rfl (fun h2 => ?_) (fun h2 => ?_)
 ·refine T.skip (T.block (T.region ?_))
  refine TL.rx 1 [(11, (pI x))] [] ?_
  refine TL.ml (x * 2) ?_
  refine TL.rl [(3, (pI (x * 2)))] [] ?_
  refine ⟨(d', x * 2), by (try dsimp only); (rw [if_pos p_4] at hx4; refine ⟨by omega, by omega, by omega, ?_⟩; first | exact hx4 | (rw [Int.mul_comm]; exact hx4)), by (dsimp only; omega), Env.le_mk ⟨rfl, rfl, ?_, trivial⟩ trivial trivial⟩ <;> exact p_109
 refine T.exit ?_
 refine T.sr [(2, (pI x))] [] ?_
 refine T.ret ?_
 exact p_160
theorem ok_impl_NodeHash (a : List Int) (b : List Int) (h0_ : U8s a) (h1_ : U8s b) (h2_ : a.length ≤ 1048576) (h3_ : b.length ≤ 1048576) : RO Tryz.prog 143 [.one (.ints .u8 a), .one (.ints .u8 b)] [(false, [.own 5 (.ints .u8 (nodeHash a b))])] := by
 refine RO.intro Tryz.func143 rfl 11 rfl (le_ok rfl) fun w Z => ?_
 refine T.bnd 0 0 rfl rfl fun hb_0_0 => ?_
 simp only [D.size, List.length_map] at hb_0_0
 refine T.bnd 1 0 rfl rfl fun hb_1_0 => ?_
 simp only [D.size, List.length_map] at hb_1_0
 refine T.sr [(4, (.one (.nil)))] [] ?_
 refine T.sg ?_
 refine TL.c (Step.lt 5 1 1 [.const (.int .u8 1)] [[.d (.int .u8 1)]] (.ints .u8 [1])) ?_
 refine TL.rx 1 [(6, (pS a))] [] ?_
 refine TL.c (Step.ap 5 1 1 (.ints .u8 a) (.ints .u8 ([1] ++ a)) (.froz rfl p_91)) ?_
 refine TL.rx 1 [(8, (pS b))] [] ?_
 refine TL.c (Step.ap 5 1 1 (.ints .u8 b) (.ints .u8 (([1] ++ a) ++ b)) (.froz rfl p_91)) ?_
 have nn1 := sha_len (([1] ++ a) ++ b)
 have nn2 := sha_u8 (([1] ++ a) ++ b)
 refine TL.c (Step.cz (ok_impl_Sha (([1] ++ a) ++ b) p_37 p_75)) ?_
 refine TL.rl [(4, (.one (.row 1010 [])))] [] ?_
 refine T.ret ?_
 exact p_131
theorem ok_impl_TreeRoot_r (d_ : Nat) : ∀ (l : List (List Int)) (hd_ : l.length = d_) (h0_ : ∀ y ∈ l, U8s y) (h1_ : ∀ y ∈ l, y.length ≤ 1048576), RO Tryz.prog 119 [.one (.bss l)] [(false, [.own 5 (.ints .u8 (aq l))])] := by
 refine Nat.strongRecOn d_ ?_
 intro d_ ih l hd_ h0_ h1_
 subst hd_
 refine RO.intro Tryz.func119 rfl 27 rfl (le_ok rfl) fun w Z => ?_
 refine T.bnd 0 0 rfl rfl fun hb_0_0 => ?_
 simp only [D.size, List.length_map] at hb_0_0
 have hsb_ := splitAtT_bd (l.length : Int)
 have hsl_ := splitAtT_le (l.length : Int)
 have hpt_ := part_len l
 have hy_ := mem_len h1_ 0
 refine T.sr [(2, (.one (.nil)))] [] ?_
 refine T.seq (T.sg ?_)
 refine TL.rx 1 [(4, (.one (.d (.bss l))))] [] ?_
 refine TL.c (Step.ln 24 1 (.bss l)) ?_
 refine TL.nil (T.block ?_)
 refine T.sr [(6, (pB (decide ((l.length : Int) = 0))))] [] ?_
 refine T.ci rfl (fun h1 => ?_) (fun h1 => ?_)
 ·refine T.sg ?_
  have nn2 := sha_len []
  have nn3 := sha_u8 []
  refine TL.c (Step.cz (ok_impl_Sha [] p_37 p_75)) ?_
  refine TL.rl [(2, (.one (.row 1008 [])))] [] ?_
  refine T.ret ?_
  exact p_142
 refine T.sr [(9, (pB (decide ((l.length : Int) = 1))))] [] ?_
 refine T.ci rfl (fun h4 => ?_) (fun h4 => ?_)
 ·refine T.sg ?_
  refine TL.rx 1 [(11, (.one (.d (.bss l))))] [] ?_
  refine TL.c (Step.index (e := 24) (z := 1) (i := 0) rfl rfl (lt_ok rfl) p_7 rfl rfl rfl (lt_ok rfl) rfl p_23 p_47) ?_
  refine TL.c (Step.load (e := (.ints .u8 (l.getD 0 []))) rfl rfl (lt_ok rfl) p_7 rfl rfl) ?_
  have nn5 := leafHash_len (l.getD 0 [])
  have nn6 := leafHash_u8 (l.getD 0 [])
  refine TL.c (Step.cz (ok_impl_LeafHash (l.getD 0 []) p_40 p_1)) ?_
  refine TL.rl [(2, (.one (.row 1014 [])))] [] ?_
  refine T.ret ?_
  exact p_142
 refine T.skip (T.sg ?_)
 refine TL.rx 1 [(15, (.one (.d (.bss l))))] [] ?_
 refine TL.c (Step.ln 24 1 (.bss l)) ?_
 have nn7 := splitAtT_bd (l.length : Int)
 refine TL.c (Step.cz (ok_impl_SplitAt (l.length : Int) p_1)) ?_
 refine TL.rl [(3, (pI (ah (l.length : Int))))] [] ?_
 refine T.seq ?_
 have nn8 := treeRoot_len ((l.drop 0).take ((ah (l.length : Int)).toNat - 0))
 have nn9 := treeRoot_u8 ((l.drop 0).take ((ah (l.length : Int)).toNat - 0))
 have nn10 := treeRoot_len ((l.drop (ah (l.length : Int)).toNat).take (l.length - (ah (l.length : Int)).toNat))
 have nn11 := treeRoot_u8 ((l.drop (ah (l.length : Int)).toNat).take (l.length - (ah (l.length : Int)).toNat))
 have nn12 := nodeHash_len (aq ((l.drop 0).take ((ah (l.length : Int)).toNat - 0))) (aq ((l.drop (ah (l.length : Int)).toNat).take (l.length - (ah (l.length : Int)).toNat)))
 have nn13 := nodeHash_u8 (aq ((l.drop 0).take ((ah (l.length : Int)).toNat - 0))) (aq ((l.drop (ah (l.length : Int)).toNat).take (l.length - (ah (l.length : Int)).toNat)))
 refine T.draw [⟨18, (.one (.d (.bss l))), []⟩, ⟨19, (pI (ah (l.length : Int))), []⟩, ⟨20, (.one (.d (.bss ((l.drop 0).take ((ah (l.length : Int)).toNat - 0))))), []⟩, ⟨21, (.one (.row 1021 [])), [(1021, (5, (.ints .u8 (aq ((l.drop 0).take ((ah (l.length : Int)).toNat - 0))))))]⟩, ⟨22, (.one (.d (.bss l))), []⟩, ⟨23, (pI (ah (l.length : Int))), []⟩, ⟨24, (.one (.d (.bss ((l.drop (ah (l.length : Int)).toNat).take (l.length - (ah (l.length : Int)).toNat))))), []⟩, ⟨25, (.one (.row 1025 [])), [(1025, (5, (.ints .u8 (aq ((l.drop (ah (l.length : Int)).toNat).take (l.length - (ah (l.length : Int)).toNat))))))]⟩, ⟨26, (.one (.row 1026 [])), [(1026, (5, (.ints .u8 (nodeHash (aq ((l.drop 0).take ((ah (l.length : Int)).toNat - 0))) (aq ((l.drop (ah (l.length : Int)).toNat).take (l.length - (ah (l.length : Int)).toNat)))))))]⟩, ⟨2, (.one (.row 1026 [])), []⟩] p_7 p_7 ?_ ?_
 ·refine .cons (fun E A => A.mv 0 18) ?_
  refine .cons (fun E A => A.mv 3 19) ?_
  refine .cons (fun E A => OpStep.plain rfl (Step.slice (e := 24) (z := 1) (l := 0) (h := (ah (l.length : Int)).toNat) (t := 20) rfl rfl p_24 p_7 (A.g 18 rfl) rfl rfl (.none _) ((.some (i := (ah (l.length : Int))) (A.g 19 rfl) p_23)) p_23 p_47 rfl)) ?_
  refine .cons (fun E A => OpStep.plain rfl (Step.call (f := 119) (xs := [.tmp 20]) (ps := [(.one (.d (.bss ((l.drop 0).take ((ah (l.length : Int)).toNat - 0)))))]) false (g := .func 119) (t := 21) rfl rfl p_24 rfl p_7 (evs_cons (A.g 20 rfl) (rfl)) (.cons (.one (.d _)) .nil) (ih ((l.drop 0).take ((ah (l.length : Int)).toNat - 0)).length p_4 ((l.drop 0).take ((ah (l.length : Int)).toNat - 0)) rfl p_76 p_73) (.inr rfl) (At.freshRows A rfl) p_105 rfl)) ?_
  refine .cons (fun E A => A.mv 0 22) ?_
  refine .cons (fun E A => A.mv 3 23) ?_
  refine .cons (fun E A => OpStep.plain rfl (Step.slice (e := 24) (z := 1) (l := (ah (l.length : Int)).toNat) (h := l.length) (t := 24) rfl rfl p_24 p_7 (A.g 22 rfl) rfl rfl ((.some (i := (ah (l.length : Int))) (A.g 23 rfl) p_23)) (.none _) p_23 p_47 rfl)) ?_
  refine .cons (fun E A => OpStep.plain rfl (Step.call (f := 119) (xs := [.tmp 24]) (ps := [(.one (.d (.bss ((l.drop (ah (l.length : Int)).toNat).take (l.length - (ah (l.length : Int)).toNat)))))]) false (g := .func 119) (t := 25) rfl rfl p_24 rfl p_7 (evs_cons (A.g 24 rfl) (rfl)) (.cons (.one (.d _)) .nil) (ih ((l.drop (ah (l.length : Int)).toNat).take (l.length - (ah (l.length : Int)).toNat)).length p_4 ((l.drop (ah (l.length : Int)).toNat).take (l.length - (ah (l.length : Int)).toNat)) rfl p_76 p_73) (.inr rfl) (At.freshRows A rfl) p_105 rfl)) ?_
  refine .cons (fun E A => OpStep.plain rfl (Step.cd (xs := [.tmp 21, .tmp 25]) (ps := [(.one (.row 1021 [])), (.one (.row 1025 []))]) (g := .func 143) false 26 (evs_cons (A.g 21 rfl) (evs_cons (A.g 25 rfl) (rfl))) (.cons (.one (.row rfl (by exact (A.row 1021 (by kernel_rfl)).trans rfl) rfl rfl)) (.cons (.one (.row rfl (by exact (A.row 1025 (by kernel_rfl)).trans rfl) rfl rfl)) .nil)) (ok_impl_NodeHash (aq ((l.drop 0).take ((ah (l.length : Int)).toNat - 0))) (aq ((l.drop (ah (l.length : Int)).toNat).take (l.length - (ah (l.length : Int)).toNat))) p_40 p_40 p_1 p_1) (At.freshRows A rfl))) ?_
  refine .cons (fun E A => A.as 26 2) ?_
  exact .nil _ _
 refine TL.nil (T.ret ?_)
 exact p_142
theorem ok_impl_TreeRoot (l : List (List Int)) (h0_ : ∀ y ∈ l, U8s y) (h1_ : ∀ y ∈ l, y.length ≤ 1048576) : RO Tryz.prog 119 [.one (.bss l)] [(false, [.own 5 (.ints .u8 (aq l))])] := ok_impl_TreeRoot_r _ l rfl h0_ h1_
theorem ok_impl_readBlock (b : List Int) (s : SRS) (l : SLimits) (h0_ : U8s b) (h1_ : b.length ≤ 1048576) (h2_ : limOk l = true) : BX Tryz.prog 79 [.rd (.agg [(.int .i64 l.f0), (.int .i64 l.f1), (.int .i64 l.f2), (.int .i64 l.f3), (.int .i64 l.f4)]), .bx] 151 [.rd (.ints .u8 b), .rd (.int .i64 s.f0), .rd (.int .i64 s.f1)] [.rd (.ints .u8 b), .rd (.int .i64 (ar l b s).1.f0), .rd (.int .i64 (ar l b s).1.f1)] [(true, [.rd (.int .i64 (ar l b s).2.f0.f0), .rd (.int .i64 (ar l b s).2.f0.f1), .rd (.int .i64 (ar l b s).2.f0.f2), .own 5 (.ints .u8 (ar l b s).2.f0.f3), .own 5 (.ints .u8 (ar l b s).2.f0.f4), .rd (.int .i64 (ar l b s).2.f0.f5.f0), .rd (.int .i64 (ar l b s).2.f0.f5.f1), .own 5 (.ints .u8 (ar l b s).2.f0.f5.f2), .own 5 (.ints .u8 (ar l b s).2.f0.f5.f3), .own 24 (.bss (ar l b s).2.f0.f5.f4), .own 24 (.bss (ar l b s).2.f1)])] := by
 refine BX.intro Tryz.func79 rfl 55 rfl (le_ok rfl) (le_ok rfl) fun w Z IX pin hp => ?_
 have hl2_ : 0 ≤ l.f2 ∧ l.f2 ≤ 8 := by have h_ := h2_; simp [limOk] at h_; omega
 have hb1_ := @bf b h0_ (ag l b s).1
 have hb2_ : (rdB2 l b s).2 = (aa b (ag l b s).1).2 := rfl
 have hb3_ : (am b (ag l b s).1 (l.f2 + 1) 3).2 = (rdB2 l b s).2 := rfl
 have hho_ := @rdHead_ok l b s h0_
 have hr4_ := hho_.2.2.2.2.1
 refine T.sr [(2, (.one (.ptr 2 0))), (4, (.one (.ptr 4 0)))] [(2, (46, (c_2 l))), (4, (33, c_21))] ?_
 refine T.sg ?_
 refine TL.rx 2 [(8, (.agg (c_2 l))), (9, (.one (.ptr 800 0)))] [] ?_
 have nn1 := @rdHead_sm l b s p_53
 have nn2 := @rdHead_ok l b s p_5
 refine TL.c (Step.x2 800 (ok_impl_readHead b s l p_5 p_1)) ?_
 refine TL.rl [(5, (.one (.ptr 5 0)))] [(5, (33, (c_37 b l s)))] ?_
 refine T.sg ?_
 refine TL.rx 3 [(12, (.one (.ptr 800 0))), (14, (pI l.f2))] [] ?_
 refine TL.ad (l.f2 + 1) ?_
 have nn3 := @bf b p_5 (ag l b s).1
 refine TL.c (Step.x2 800 (ok_impl_reader__below b (ag l b s).1 (l.f2 + 1) 3 p_5 p_1)) ?_
 refine TL.rl [(6, (pI (am b (ag l b s).1 (l.f2 + 1) 3).2))] [] ?_
 refine T.seq ?_
 refine T.sr [(7, (pI 0))] [] ?_
 refine T.block ?_
 refine T.nilrow 5 10 100510 24 33 (.bss []) (c_37 b l s) rfl rfl rfl (fun x hx => by have := hp x hx; omega) rfl rfl trivial ?_
 refine T.loop (ι := Nat × SRS × (List (List Int))) (fun xx_ => { tm := [(1, (.one (.ptr 800 0))), (2, (.one (.ptr 2 0))), (4, (.one (.ptr 4 0))), (5, (.one (.ptr 5 0))), (6, (pI (am b (ag l b s).1 (l.f2 + 1) 3).2)), (7, (pI ((xx_.1) : Int)))], rows := [(7010, (5, (.ints .u8 (ag l b s).2.f3))), (8010, (5, (.ints .u8 (ag l b s).2.f4))), (11010, (5, (.ints .u8 (ag l b s).2.f5.f2))), (12010, (5, (.ints .u8 (ag l b s).2.f5.f3))), (13010, (24, (.bss (ag l b s).2.f5.f4))), (100510, (24, (.bss (xx_.2.2))))], boxes := [(800, (151, [cS b, cI (xx_.2.1).f0, cI (xx_.2.1).f1])), (2, (46, (c_2 l))), (4, (33, c_21)), (5, (33, (c_6 b l s)))] }) (fun xx_ => ((xx_.1) : Int) ≤ (rdB2 l b s).2 ∧ ((xx_.2.1).f1 = 0 → (rdB2 l b s).2 ≤ 8) ∧ (xx_.2.2).length = (xx_.1) ∧ (∀ y ∈ (xx_.2.2), U8s y) ∧ (∀ y ∈ (xx_.2.2), y.length ≤ 1048576) ∧ rdTx l b ((rdB2 l b s).2.toNat - (xx_.1)) (xx_.2.1) (xx_.2.2) = rdTx l b (rdB2 l b s).2.toNat (rdB2 l b s).1 []) (fun xx_ => (rdB2 l b s).2.toNat - (xx_.1)) (0, (rdB2 l b s).1, []) ?_ ?_ ?_
 · refine Env.le_mk ⟨rfl, rfl, rfl, rfl, rfl, ?_, trivial⟩ ⟨rfl, rfl, rfl, rfl, rfl, ?_, trivial⟩ ⟨?_, rfl, rfl, rfl, trivial⟩ <;> exact p_12
 · (dsimp only; exact ⟨by omega, fun h_ => rdB2_z ((fun _ => h2_)) h_, rfl, (fun y hy => by cases hy), (fun y hy => by cases hy), rfl⟩)
 intro xx_ hx
 obtain ⟨i, q, ts⟩ := xx_
 try dsimp only at hx ⊢
 obtain ⟨hx1, hx2, hx3, hx5, hx6, hx4⟩ := hx
 refine T.seq (T.sg ?_)
 refine TL.rx 4 [(20, (pB (decide ((i : Int) < (am b (ag l b s).1 (l.f2 + 1) 3).2))))] [] ?_
 rcases Bool.eq_false_or_eq_true (decide ((i : Int) < (am b (ag l b s).1 (l.f2 + 1) 3).2)) with hb4 | hb4
 ·refine TL.known 20 hb4 rfl ?_
  have hb4' := hb4
  replace hb4' := of_decide_eq_true hb4'
  refine TL.rl [(26, (pB (decide (q.f1 = 0))))] [] ?_
  refine T.ci rfl (fun h5 => ?_) (fun h5 => ?_)
  ·refine T.skip (T.seq (T.block ?_))
   have nn6 := rdText_len b q l.f1
   refine T.drawX [{ dst := some 29, pv := (.one (.ptr 5 10)) }, { dst := some 30, pv := (.one (.row 100510 [])) }, { dst := some 31, pv := (.one (.ptr 800 0)) }, { dst := some 32, pv := (.one (.ptr 2 1)) }, { dst := some 33, pv := (pI l.f1) }, { dst := some 34, pv := (.one (.row 4034 [])), rows := [(4034, (5, (.ints .u8 (rdText b q l.f1).2)))], box := some (800, (151, (c_68 b l q))) }, { dst := some 35, pv := (.one (.row 35 [])), rows := [(35, (24, (.bss [(rdText b q l.f1).2])))], dead := [4034] }, { dst := some 36, pv := (.one (.row 500036 [])), rows := [(500036, (24, (.bss (ts ++ [(rdText b q l.f1).2]))))], dead := [100510, 35] }, { dst := some 37, pv := (.one (.ptr 5 10)) }, { box := some (5, (33, (c_56 b l s))) }] p_7 p_7 ?_ ?_
   ·refine .sk 5 ?_
    refine .cons (fun E A => OpStep.plain rfl (Step.callXX2 (b := 800) (xs := [.tmp 31, .tmp 33]) (ps := [(.one (.ptr 800 0)), (pI l.f1)]) (bps := (c_66 b q)) (ss := []) (g := .func 117) (t := 34) (ok_impl_reader__text b q l.f1 p_5 p_1) rfl rfl p_24 rfl p_7 (evs_cons (A.g 31) (evs_cons (A.g 33) (rfl))) (.cons (.bx) (.cons (.rd (.one (.d _))) .nil)) (A.b 800 (x := (151, _))) (.rd (.rd (.rd .nil))) rfl (handX_fresh (fun x_ hx_ => A.fresh x_ (by exact hx_))) (fun x hx => by have := hp x hx; omega) rfl p_107)) ?_
    refine .cons (fun E A => OpStep.plain rfl (Step.litX (e := 24) (z := 1) (by_ := 24) (xs := [.tmp 34]) (pss := [[.row 4034 []]]) (es := [(.ints .u8 (rdText b q l.f1).2)]) (ss := [4034]) (d := (.bss [(rdText b q l.f1).2])) (t := 35) rfl rfl p_24 p_7 rfl rfl (.cons (by exact (congrArg PV.flat (A.g 34 (p := (.one (.row 4034 []))))).trans rfl) .nil) p_105 (le_ok rfl) (le_ok rfl) A.fn (.row (A.r 4034 (x := (5, _))) p_105 .nil) (A.fresh _ (List.mem_singleton.2 rfl)) p_105 (fun x_ hx_ => by have := hp x_ hx_; omega) rfl trivial rfl rfl)) ?_
    refine .cons (fun E A => OpStep.plain rfl (Step.appendX (e := 24) (z := 1) (by_ := 24) (d := (.bss ts)) (dy := (.bss [(rdText b q l.f1).2])) (d' := (.bss (ts ++ [(rdText b q l.f1).2]))) (ss := [35]) 500036 (t := 36) rfl rfl p_24 p_7 (A.g 30) (A.r 100510 (x := (24, _))) rfl (lt_ok rfl) (A.g 35) (.move (A.r 35 (x := (24, _)))) p_105 rfl p_21 p_21 (fun x_ hx_ => by have := hp x_ hx_; omega) (A.fresh _ (List.mem_singleton.2 rfl)) p_105 (fun x_ hx_ => by have := hp x_ hx_; omega))) ?_
    refine .sk 2 ?_
    exact .nil _ _
   refine TL.wk [(1, (.one (.ptr 800 0))), (2, (.one (.ptr 2 0))), (4, (.one (.ptr 4 0))), (5, (.one (.ptr 5 0))), (6, (pI (am b (ag l b s).1 (l.f2 + 1) 3).2)), (7, (pI (i : Int)))] [(7010, (5, (.ints .u8 (ag l b s).2.f3))), (8010, (5, (.ints .u8 (ag l b s).2.f4))), (11010, (5, (.ints .u8 (ag l b s).2.f5.f2))), (12010, (5, (.ints .u8 (ag l b s).2.f5.f3))), (13010, (24, (.bss (ag l b s).2.f5.f4))), (500036, (24, (.bss (ts ++ [(rdText b q l.f1).2]))))] [(800, (151, (c_68 b l q))), (2, (46, (c_2 l))), (4, (33, c_21)), (5, (33, (c_56 b l s)))] ?_
   refine TL.ren 500036 100510 rfl (fun x hx => by have := hp x hx; omega) ?_
   refine TL.nil (T.region ?_)
   refine TL.rx 1 [(27, (pI (i : Int)))] [] ?_
   refine TL.ad ((i : Int) + 1) ?_
   refine TL.rl [(7, (pI ((i : Int) + 1)))] [] ?_
   refine ⟨(i + 1, (rdText b q l.f1).1, (ts ++ [(rdText b q l.f1).2])), by (try dsimp only); (refine ⟨by omega, fun _ => by omega, by simp only [List.length_append, List.length_cons, List.length_nil]; first | done | omega, mem_snoc hx5 (rdText_u8 h0_ q l.f1), mem_snoc hx6 (Nat.le_trans (rdText_len b q l.f1) h1_), ?_⟩; exact (rdTx_next p_4 p_4).symm.trans hx4), by (dsimp only; omega), Env.le_mk ⟨rfl, rfl, rfl, rfl, rfl, ?_, trivial⟩ ⟨rfl, rfl, rfl, rfl, rfl, ?_, trivial⟩ ⟨?_, rfl, rfl, rfl, trivial⟩⟩ <;> exact p_12
  refine T.exit (T.seq ?_)
  rcases Bool.eq_false_or_eq_true (decide (q.f1 ≠ 0)) with hb7 | hb7
  ·have hb7' := hb7
   replace hb7' := of_decide_eq_true hb7'
   refine T.drawX [{ dst := some 38, pv := (.one (.ptr 800 0)) }, { dst := some 39, pv := (.one (.ptr 800 0)) }, { dst := some 40, pv := (.one (.ptr 800 0)) }, { dst := some 41, pv := (.one (.ptr 800 2)) }, { dst := some 42, pv := (pI q.f1) }, { dst := some 43, pv := (pB true) }, { dst := some 44, pv := (pB true) }, { dst := some 45, pv := (.tup []) }, { dst := some 46, pv := (.tup []) }, { dst := some 47, pv := (.tup []) }, { dst := some 48, pv := (.tup []) }, { dst := some 49, pv := (.tup []) }, { dst := some 50, pv := (.tup []) }, { dst := some 51, pv := (.tup []) }, { dst := some 52, pv := (pB true) }, { dst := some 53, pv := (.tup []), box := some (800, (151, (c_69 b q))) }] p_7 p_7 ?_ ?_
   ·refine .sk 5 ?_
    refine .cons (fun E A => OpStep.plain rfl (Step.tb 43 (decide (q.f1 ≠ 0)) hb7 (Step.bd 43 (A.g 42) rfl (Bin.neq (k := .i64) (a := q.f1) (b := 0))))) ?_
    refine .sk 9 ?_
    refine .cons (fun E A => OpStep.plain rfl (Step.callXX2 (b := 800) (xs := [.tmp 38, .tmp 52, .const (.int .i64 7)]) (ps := [(.one (.ptr 800 0)), (pB true), (pI 7)]) (bps := (c_66 b q)) (ss := []) (g := .func 115) (t := 53) (ok_impl_reader__must b q true 7 p_5 p_1) rfl rfl p_24 rfl p_7 (evs_cons (A.g 38) (evs_cons (A.g 52) (evs_cons rfl (rfl)))) (.cons (.bx) (.cons (.rd (.one (.d _))) (.cons (.rd (.one (.d _))) .nil))) (A.b 800 (x := (151, _))) (.rd (.rd (.rd .nil))) rfl (handX_fresh (fun x_ hx_ => A.fresh x_ (by exact hx_))) (fun x hx => by have := hp x hx; omega) rfl p_107)) ?_
    exact .nil _ _
   refine TL.wk [(4, (.one (.ptr 4 0))), (5, (.one (.ptr 5 0)))] [(7010, (5, (.ints .u8 (ag l b s).2.f3))), (8010, (5, (.ints .u8 (ag l b s).2.f4))), (11010, (5, (.ints .u8 (ag l b s).2.f5.f2))), (12010, (5, (.ints .u8 (ag l b s).2.f5.f3))), (13010, (24, (.bss (ag l b s).2.f5.f4))), (100510, (24, (.bss ts)))] [(800, (151, (c_69 b q))), (2, (46, (c_2 l))), (4, (33, c_21)), (5, (33, (c_6 b l s)))] ?_
   refine TL.nil ?_
   refine T.sr [] [(4, (33, (c_6 b l s)))] ?_
   refine T.ret ?_
   exact p_126
  have hb7' := hb7
  replace hb7' := of_decide_eq_false hb7'
  have nn8 := treeRoot_len ts
  have nn9 := treeRoot_u8 ts
  refine T.drawX [{ dst := some 38, pv := (.one (.ptr 800 0)) }, { dst := some 39, pv := (.one (.ptr 800 0)) }, { dst := some 40, pv := (.one (.ptr 800 0)) }, { dst := some 41, pv := (.one (.ptr 800 2)) }, { dst := some 42, pv := (pI q.f1) }, { dst := some 43, pv := (pB false) }, { dst := some 44, pv := (pB false) }, { dst := some 45, pv := (.one (.ptr 5 0)) }, { dst := some 46, pv := (.one (.ptr 5 4)) }, { dst := some 47, pv := (.one (.row 8010 [])) }, { dst := some 48, pv := (.one (.ptr 5 10)) }, { dst := some 49, pv := (.one (.row 100510 [])) }, { dst := some 50, pv := (.one (.row 1050 [])), rows := [(1050, (5, (.ints .u8 (aq ts))))] }, { dst := some 51, pv := (pB (decide ((ag l b s).2.f4 = (aq ts)))) }, { dst := some 52, pv := (pB (decide ((ag l b s).2.f4 = (aq ts)))) }, { dst := some 53, pv := (.tup []), box := some (800, (151, (c_27 b l q s ts))) }] p_7 p_7 ?_ ?_
  ·refine .sk 5 ?_
   refine .cons (fun E A => OpStep.plain rfl (Step.tb 43 (decide (q.f1 ≠ 0)) hb7 (Step.bd 43 (A.g 42) rfl (Bin.neq (k := .i64) (a := q.f1) (b := 0))))) ?_
   refine .sk 6 ?_
   refine .cons (fun E A => OpStep.yes (t := 44) rfl rfl (lt_ok rfl) (A.g 44) (Step.call (f := 119) (xs := [.tmp 49]) (ps := [(.one (.row 100510 []))]) false (g := .func 119) (t := 50) rfl rfl p_24 rfl p_7 (evs_cons (A.g 49) (rfl)) (.cons (.one (.row rfl (A.r 100510 (x := (24, _))) rfl rfl)) .nil) (ok_impl_TreeRoot ts p_76 p_73) (.inr rfl) (AtX.frs A) (fun x hx => by have := hp x hx; omega) rfl)) ?_
   refine .cons (fun E A => OpStep.yes (t := 44) rfl rfl (lt_ok rfl) (A.g 44) (Step.call (f := 118) (xs := [.tmp 47, .tmp 50]) (ps := [(.one (.row 8010 [])), (.one (.row 1050 []))]) false (g := .func 118) (t := 51) rfl rfl p_24 rfl p_7 (evs_cons (A.g 47) (evs_cons (A.g 50) (rfl))) (.cons (.one (.row rfl (A.r 8010 (x := (5, _))) rfl rfl)) (.cons (.one (.row rfl (A.r 1050 (x := (5, _))) rfl rfl)) .nil)) (ok_impl_SameBytes (ag l b s).2.f4 (aq ts) p_100 p_100) (.inr rfl) (AtX.frs A) (fun x hx => by have := hp x hx; omega) rfl)) ?_
   refine .sk 1 ?_
   refine .cons (fun E A => OpStep.plain rfl (Step.callXX2 (b := 800) (xs := [.tmp 38, .tmp 52, .const (.int .i64 7)]) (ps := [(.one (.ptr 800 0)), (pB (decide ((ag l b s).2.f4 = (aq ts)))), (pI 7)]) (bps := (c_66 b q)) (ss := []) (g := .func 115) (t := 53) (ok_impl_reader__must b q (decide ((ag l b s).2.f4 = (aq ts))) 7 p_5 p_1) rfl rfl p_24 rfl p_7 (evs_cons (A.g 38) (evs_cons (A.g 52) (evs_cons rfl (rfl)))) (.cons (.bx) (.cons (.rd (.one (.d _))) (.cons (.rd (.one (.d _))) .nil))) (A.b 800 (x := (151, _))) (.rd (.rd (.rd .nil))) rfl (handX_fresh (fun x_ hx_ => A.fresh x_ (by exact hx_))) (fun x hx => by have := hp x hx; omega) rfl p_107)) ?_
   exact .nil _ _
  refine TL.wk [(4, (.one (.ptr 4 0))), (5, (.one (.ptr 5 0)))] [(7010, (5, (.ints .u8 (ag l b s).2.f3))), (8010, (5, (.ints .u8 (ag l b s).2.f4))), (11010, (5, (.ints .u8 (ag l b s).2.f5.f2))), (12010, (5, (.ints .u8 (ag l b s).2.f5.f3))), (13010, (24, (.bss (ag l b s).2.f5.f4))), (100510, (24, (.bss ts))), (1050, (5, (.ints .u8 (aq ts))))] [(800, (151, (c_27 b l q s ts))), (2, (46, (c_2 l))), (4, (33, c_21)), (5, (33, (c_6 b l s)))] ?_
  refine TL.nil ?_
  refine T.sr [] [(4, (33, (c_6 b l s)))] ?_
  refine T.ret ?_
  exact p_126
 refine TL.known 20 hb4 rfl ?_
 have hb4' := hb4
 replace hb4' := of_decide_eq_false hb4'
 refine TL.rl [(26, (pB false))] [] ?_
 refine T.cf (T.exit (T.seq ?_))
 rcases Bool.eq_false_or_eq_true (decide (q.f1 ≠ 0)) with hb10 | hb10
 ·have hb10' := hb10
  replace hb10' := of_decide_eq_true hb10'
  refine T.drawX [{ dst := some 38, pv := (.one (.ptr 800 0)) }, { dst := some 39, pv := (.one (.ptr 800 0)) }, { dst := some 40, pv := (.one (.ptr 800 0)) }, { dst := some 41, pv := (.one (.ptr 800 2)) }, { dst := some 42, pv := (pI q.f1) }, { dst := some 43, pv := (pB true) }, { dst := some 44, pv := (pB true) }, { dst := some 45, pv := (.tup []) }, { dst := some 46, pv := (.tup []) }, { dst := some 47, pv := (.tup []) }, { dst := some 48, pv := (.tup []) }, { dst := some 49, pv := (.tup []) }, { dst := some 50, pv := (.tup []) }, { dst := some 51, pv := (.tup []) }, { dst := some 52, pv := (pB true) }, { dst := some 53, pv := (.tup []), box := some (800, (151, (c_69 b q))) }] p_7 p_7 ?_ ?_
  ·refine .sk 5 ?_
   refine .cons (fun E A => OpStep.plain rfl (Step.tb 43 (decide (q.f1 ≠ 0)) hb10 (Step.bd 43 (A.g 42) rfl (Bin.neq (k := .i64) (a := q.f1) (b := 0))))) ?_
   refine .sk 9 ?_
   refine .cons (fun E A => OpStep.plain rfl (Step.callXX2 (b := 800) (xs := [.tmp 38, .tmp 52, .const (.int .i64 7)]) (ps := [(.one (.ptr 800 0)), (pB true), (pI 7)]) (bps := (c_66 b q)) (ss := []) (g := .func 115) (t := 53) (ok_impl_reader__must b q true 7 p_5 p_1) rfl rfl p_24 rfl p_7 (evs_cons (A.g 38) (evs_cons (A.g 52) (evs_cons rfl (rfl)))) (.cons (.bx) (.cons (.rd (.one (.d _))) (.cons (.rd (.one (.d _))) .nil))) (A.b 800 (x := (151, _))) (.rd (.rd (.rd .nil))) rfl (handX_fresh (fun x_ hx_ => A.fresh x_ (by exact hx_))) (fun x hx => by have := hp x hx; omega) rfl p_107)) ?_
   exact .nil _ _
  refine TL.wk [(4, (.one (.ptr 4 0))), (5, (.one (.ptr 5 0)))] [(7010, (5, (.ints .u8 (ag l b s).2.f3))), (8010, (5, (.ints .u8 (ag l b s).2.f4))), (11010, (5, (.ints .u8 (ag l b s).2.f5.f2))), (12010, (5, (.ints .u8 (ag l b s).2.f5.f3))), (13010, (24, (.bss (ag l b s).2.f5.f4))), (100510, (24, (.bss ts)))] [(800, (151, (c_69 b q))), (2, (46, (c_2 l))), (4, (33, c_21)), (5, (33, (c_6 b l s)))] ?_
  refine TL.nil ?_
  refine T.sr [] [(4, (33, (c_6 b l s)))] ?_
  refine T.ret ?_
  exact p_126
 have hb10' := hb10
 replace hb10' := of_decide_eq_false hb10'
 have nn11 := treeRoot_len ts
 have nn12 := treeRoot_u8 ts
 refine T.drawX [{ dst := some 38, pv := (.one (.ptr 800 0)) }, { dst := some 39, pv := (.one (.ptr 800 0)) }, { dst := some 40, pv := (.one (.ptr 800 0)) }, { dst := some 41, pv := (.one (.ptr 800 2)) }, { dst := some 42, pv := (pI q.f1) }, { dst := some 43, pv := (pB false) }, { dst := some 44, pv := (pB false) }, { dst := some 45, pv := (.one (.ptr 5 0)) }, { dst := some 46, pv := (.one (.ptr 5 4)) }, { dst := some 47, pv := (.one (.row 8010 [])) }, { dst := some 48, pv := (.one (.ptr 5 10)) }, { dst := some 49, pv := (.one (.row 100510 [])) }, { dst := some 50, pv := (.one (.row 1050 [])), rows := [(1050, (5, (.ints .u8 (aq ts))))] }, { dst := some 51, pv := (pB (decide ((ag l b s).2.f4 = (aq ts)))) }, { dst := some 52, pv := (pB (decide ((ag l b s).2.f4 = (aq ts)))) }, { dst := some 53, pv := (.tup []), box := some (800, (151, (c_27 b l q s ts))) }] p_7 p_7 ?_ ?_
 ·refine .sk 5 ?_
  refine .cons (fun E A => OpStep.plain rfl (Step.tb 43 (decide (q.f1 ≠ 0)) hb10 (Step.bd 43 (A.g 42) rfl (Bin.neq (k := .i64) (a := q.f1) (b := 0))))) ?_
  refine .sk 6 ?_
  refine .cons (fun E A => OpStep.yes (t := 44) rfl rfl (lt_ok rfl) (A.g 44) (Step.call (f := 119) (xs := [.tmp 49]) (ps := [(.one (.row 100510 []))]) false (g := .func 119) (t := 50) rfl rfl p_24 rfl p_7 (evs_cons (A.g 49) (rfl)) (.cons (.one (.row rfl (A.r 100510 (x := (24, _))) rfl rfl)) .nil) (ok_impl_TreeRoot ts p_76 p_73) (.inr rfl) (AtX.frs A) (fun x hx => by have := hp x hx; omega) rfl)) ?_
  refine .cons (fun E A => OpStep.yes (t := 44) rfl rfl (lt_ok rfl) (A.g 44) (Step.call (f := 118) (xs := [.tmp 47, .tmp 50]) (ps := [(.one (.row 8010 [])), (.one (.row 1050 []))]) false (g := .func 118) (t := 51) rfl rfl p_24 rfl p_7 (evs_cons (A.g 47) (evs_cons (A.g 50) (rfl))) (.cons (.one (.row rfl (A.r 8010 (x := (5, _))) rfl rfl)) (.cons (.one (.row rfl (A.r 1050 (x := (5, _))) rfl rfl)) .nil)) (ok_impl_SameBytes (ag l b s).2.f4 (aq ts) p_100 p_100) (.inr rfl) (AtX.frs A) (fun x hx => by have := hp x hx; omega) rfl)) ?_
  refine .sk 1 ?_
  refine .cons (fun E A => OpStep.plain rfl (Step.callXX2 (b := 800) (xs := [.tmp 38, .tmp 52, .const (.int .i64 7)]) (ps := [(.one (.ptr 800 0)), (pB (decide ((ag l b s).2.f4 = (aq ts)))), (pI 7)]) (bps := (c_66 b q)) (ss := []) (g := .func 115) (t := 53) (ok_impl_reader__must b q (decide ((ag l b s).2.f4 = (aq ts))) 7 p_5 p_1) rfl rfl p_24 rfl p_7 (evs_cons (A.g 38) (evs_cons (A.g 52) (evs_cons rfl (rfl)))) (.cons (.bx) (.cons (.rd (.one (.d _))) (.cons (.rd (.one (.d _))) .nil))) (A.b 800 (x := (151, _))) (.rd (.rd (.rd .nil))) rfl (handX_fresh (fun x_ hx_ => A.fresh x_ (by exact hx_))) (fun x hx => by have := hp x hx; omega) rfl p_107)) ?_
  exact .nil _ _
 refine TL.wk [(4, (.one (.ptr 4 0))), (5, (.one (.ptr 5 0)))] [(7010, (5, (.ints .u8 (ag l b s).2.f3))), (8010, (5, (.ints .u8 (ag l b s).2.f4))), (11010, (5, (.ints .u8 (ag l b s).2.f5.f2))), (12010, (5, (.ints .u8 (ag l b s).2.f5.f3))), (13010, (24, (.bss (ag l b s).2.f5.f4))), (100510, (24, (.bss ts))), (1050, (5, (.ints .u8 (aq ts))))] [(800, (151, (c_27 b l q s ts))), (2, (46, (c_2 l))), (4, (33, c_21)), (5, (33, (c_6 b l s)))] ?_
 refine TL.nil ?_
 refine T.sr [] [(4, (33, (c_6 b l s)))] ?_
 refine T.ret ?_
 exact p_126
theorem ok_impl_Block_ (l : SLimits) (b : List Int) (a : Int) (h0_ : U8s b) (h1_ : b.length ≤ 1048576) : RO Tryz.prog 78 [.agg l.cells, .one (.ints .u8 b), .one (.int .i64 a), .one (.fn 79)] [(true, [.rd (.int .i64 (ax l b a).1.f0.f0), .rd (.int .i64 (ax l b a).1.f0.f1), .rd (.int .i64 (ax l b a).1.f0.f2), .own 5 (.ints .u8 (ax l b a).1.f0.f3), .own 5 (.ints .u8 (ax l b a).1.f0.f4), .rd (.int .i64 (ax l b a).1.f0.f5.f0), .rd (.int .i64 (ax l b a).1.f0.f5.f1), .own 5 (.ints .u8 (ax l b a).1.f0.f5.f2), .own 5 (.ints .u8 (ax l b a).1.f0.f5.f3), .own 24 (.bss (ax l b a).1.f0.f5.f4), .own 24 (.bss (ax l b a).1.f1)]), (false, [.rd (.int .i64 (ax l b a).2.1)]), (false, [.rd (.int .i64 (ax l b a).2.2)])] := by
 refine RO.intro Tryz.func78 rfl 41 rfl (le_ok rfl) fun w Z => ?_
 refine T.bnd 1 0 rfl rfl fun hb_1_0 => ?_
 simp only [D.size, List.length_map] at hb_1_0
 refine T.sr [(4, (.one (.ptr 4 0))), (8, (.one (.ptr 8 0))), (9, (pI 0)), (10, (pI 0))] [(4, (46, (c_2 l))), (8, (33, c_21))] ?_
 refine T.sr [(11, (.one (.ptr 11 0)))] [(11, (33, c_21))] ?_
 refine T.seq (T.sg ?_)
 refine TL.rx 1 [(14, (.agg (c_2 l)))] [] ?_
 refine TL.c (Step.cz (ok_impl_LimitsOk l)) ?_
 refine TL.rl [(16, (pB (!(limOk l))))] [] ?_
 refine T.cn rfl (fun h1 => ?_) (fun h1 => ?_)
 ·refine T.sr [(9, (pI 0)), (10, (pI 5))] [(8, (33, c_21))] ?_
  refine T.ret ?_
  exact p_143
 refine T.skip ?_
 refine T.sr [(12, (.one (.ptr 21 0)))] [(21, (151, [cS b, cI a, cI 0]))] ?_
 refine T.sg ?_
 refine TL.rx 3 [(22, (.one (.d (.fn 79)))), (23, (.agg (c_2 l))), (24, (.one (.ptr 21 0)))] [] ?_
 have nn2 := @rdBlock_sm l b (⟨a, 0⟩ : SRS) p_53 (by first | assumption | exact rs0_zb | exact fun _ => by assumption)
 refine TL.c (Step.x2 21 (ok_impl_readBlock b (⟨a, 0⟩ : SRS) l p_5 p_1 p_5)) ?_
 refine TL.rl [(13, (.one (.ptr 13 0)))] [(13, (33, (c_13 a b l)))] ?_
 refine T.seq ?_
 refine T.sr [(30, (pB (decide ((ar l b (⟨a, 0⟩ : SRS)).1.f1 ≠ 0))))] [] ?_
 refine T.ci rfl (fun h3 => ?_) (fun h3 => ?_)
 ·refine T.seq ?_
  refine T.drawX [{ dst := some 31, pv := (.agg c_21) }, { dst := some 32, pv := (.one (.ptr 21 0)) }, { dst := some 33, pv := (.one (.ptr 21 0)) }, { dst := some 34, pv := (.one (.ptr 21 2)) }, { dst := some 35, pv := (pI (ar l b (⟨a, 0⟩ : SRS)).1.f1) }, { box := some (8, (33, c_21)) }, { dst := some 9, pv := (pI 0) }, { dst := some 10, pv := (pI (ar l b (⟨a, 0⟩ : SRS)).1.f1) }] p_7 p_7 ?_ ?_
  ·refine .sk 8 ?_
   exact .nil _ _
  refine TL.wk [(8, (.one (.ptr 8 0))), (9, (pI 0)), (10, (pI (ar l b (⟨a, 0⟩ : SRS)).1.f1)), (12, (.one (.ptr 21 0))), (13, (.one (.ptr 13 0)))] [(7025, (5, (.ints .u8 (ar l b (⟨a, 0⟩ : SRS)).2.f0.f3))), (8025, (5, (.ints .u8 (ar l b (⟨a, 0⟩ : SRS)).2.f0.f4))), (11025, (5, (.ints .u8 (ar l b (⟨a, 0⟩ : SRS)).2.f0.f5.f2))), (12025, (5, (.ints .u8 (ar l b (⟨a, 0⟩ : SRS)).2.f0.f5.f3))), (13025, (24, (.bss (ar l b (⟨a, 0⟩ : SRS)).2.f0.f5.f4))), (14025, (24, (.bss (ar l b (⟨a, 0⟩ : SRS)).2.f1)))] [(4, (46, (c_2 l))), (8, (33, c_21)), (11, (33, c_21)), (21, (151, [cS b, cI (ar l b (⟨a, 0⟩ : SRS)).1.f0, cI (ar l b (⟨a, 0⟩ : SRS)).1.f1])), (13, (33, (c_13 a b l)))] ?_
  refine TL.nil (T.ret ?_)
  exact p_143
 refine T.skip (T.seq ?_)
 refine T.drawX [{ dst := some 36, pv := (.agg (c_13 a b l)) }, { dst := some 37, pv := (.one (.ptr 21 0)) }, { dst := some 38, pv := (.one (.ptr 21 0)) }, { dst := some 39, pv := (.one (.ptr 21 1)) }, { dst := some 40, pv := (pI (ar l b (⟨a, 0⟩ : SRS)).1.f0) }, { box := some (8, (33, (c_13 a b l))) }, { dst := some 9, pv := (pI (ar l b (⟨a, 0⟩ : SRS)).1.f0) }, { dst := some 10, pv := (pI 0) }] p_7 p_7 ?_ ?_
 ·refine .sk 8 ?_
  exact .nil _ _
 refine TL.wk [(8, (.one (.ptr 8 0))), (9, (pI (ar l b (⟨a, 0⟩ : SRS)).1.f0)), (10, (pI 0))] [(7025, (5, (.ints .u8 (ar l b (⟨a, 0⟩ : SRS)).2.f0.f3))), (8025, (5, (.ints .u8 (ar l b (⟨a, 0⟩ : SRS)).2.f0.f4))), (11025, (5, (.ints .u8 (ar l b (⟨a, 0⟩ : SRS)).2.f0.f5.f2))), (12025, (5, (.ints .u8 (ar l b (⟨a, 0⟩ : SRS)).2.f0.f5.f3))), (13025, (24, (.bss (ar l b (⟨a, 0⟩ : SRS)).2.f0.f5.f4))), (14025, (24, (.bss (ar l b (⟨a, 0⟩ : SRS)).2.f1)))] [(4, (46, (c_2 l))), (8, (33, (c_13 a b l))), (11, (33, c_21)), (21, (151, [cS b, cI (ar l b (⟨a, 0⟩ : SRS)).1.f0, cI (ar l b (⟨a, 0⟩ : SRS)).1.f1])), (13, (33, (c_13 a b l)))] ?_
 refine TL.nil (T.ret ?_)
 refine ⟨_, (.cons rfl (.cons rfl (.cons rfl .nil))), rfl, _, (.r ?_ (.r ?_ (.r ?_ (.o ?_ (.o ?_ (.r ?_ (.r ?_ (.o ?_ (.o ?_ (.o ?_ (.o ?_ (.r ?_ (.r ?_ .nil)))))))))))))⟩ <;> exact p_27
theorem ok_impl_GetBlock (l : SLimits) (b : List Int) (a : Int) (h0_ : U8s b) (h1_ : b.length ≤ 1048576) : RO Tryz.prog 31 [.agg l.cells, .one (.ints .u8 b), .one (.int .i64 a)] [(true, [.rd (.int .i64 (ax l b a).1.f0.f0), .rd (.int .i64 (ax l b a).1.f0.f1), .rd (.int .i64 (ax l b a).1.f0.f2), .own 5 (.ints .u8 (ax l b a).1.f0.f3), .own 5 (.ints .u8 (ax l b a).1.f0.f4), .rd (.int .i64 (ax l b a).1.f0.f5.f0), .rd (.int .i64 (ax l b a).1.f0.f5.f1), .own 5 (.ints .u8 (ax l b a).1.f0.f5.f2), .own 5 (.ints .u8 (ax l b a).1.f0.f5.f3), .own 24 (.bss (ax l b a).1.f0.f5.f4), .own 24 (.bss (ax l b a).1.f1)]), (false, [.rd (.int .i64 (ax l b a).2.1)]), (false, [.rd (.int .i64 (ax l b a).2.2)])] := by
 refine RO.intro Tryz.func31 rfl 16 rfl (le_ok rfl) fun w Z => ?_
 refine T.bnd 1 0 rfl rfl fun hb_1_0 => ?_
 simp only [D.size, List.length_map] at hb_1_0
 refine T.sr [(3, (.one (.ptr 3 0))), (6, (.one (.ptr 6 0))), (7, (pI 0)), (8, (pI 0))] [(3, (46, (c_2 l))), (6, (33, c_21))] ?_
 refine T.sg ?_
 refine TL.rx 3 [(9, (.agg (c_2 l))), (10, (pS b)), (11, (pI a))] [] ?_
 have nn1 := @getBlock_sm l b a p_53
 refine TL.c (Step.cz (ok_impl_Block_ l b a p_5 p_1)) ?_
 refine TL.rl [(7, (pI (ax l b a).2.1)), (8, (pI (ax l b a).2.2))] [(6, (33, [cI (ax l b a).1.f0.f0, cI (ax l b a).1.f0.f1, cI (ax l b a).1.f0.f2, .row 4012 [], .row 5012 [], cI (ax l b a).1.f0.f5.f0, cI (ax l b a).1.f0.f5.f1, .row 8012 [], .row 9012 [], .row 10012 [], .row 11012 []]))] ?_
 refine T.ret ?_
 refine ⟨_, (.cons rfl (.cons rfl (.cons rfl .nil))), rfl, _, (.r rfl (.r rfl (.r rfl (.o ?_ (.o ?_ (.r rfl (.r rfl (.o ?_ (.o ?_ (.o ?_ (.o ?_ (.r rfl (.r rfl .nil)))))))))))))⟩ <;> (rfl)
theorem ok_impl_readTc (b : List Int) (s : SRS) (l : SLimits) (h0_ : U8s b) (h1_ : b.length ≤ 1048576) (h2_ : limOk l = true) : BX Tryz.prog 81 [.rd (.agg [(.int .i64 l.f0), (.int .i64 l.f1), (.int .i64 l.f2), (.int .i64 l.f3), (.int .i64 l.f4)]), .bx] 151 [.rd (.ints .u8 b), .rd (.int .i64 s.f0), .rd (.int .i64 s.f1)] [.rd (.ints .u8 b), .rd (.int .i64 (rdTc l b s).1.f0), .rd (.int .i64 (rdTc l b s).1.f1)] [(true, [.rd (.int .i64 (rdTc l b s).2.f0), .own 111 (.sl 3 ((rdTc l b s).2.f1.map SEntry.cells))])] := by
 refine BX.intro Tryz.func81 rfl 58 rfl (le_ok rfl) (le_ok rfl) fun w Z IX pin hp => ?_
 have hn_ := limOk_n h2_
 have hb1_ := @bf b h0_ (aa b s).1
 have hb2_ : (rdTc1 l b s).2 = (aa b (aa b s).1).2 := rfl
 have hb3_ : (am b (aa b s).1 (l.f0 + 1) 3).2 = (rdTc1 l b s).2 := rfl
 refine T.sr [(2, (.one (.ptr 2 0))), (4, (.one (.ptr 4 0)))] [(2, (46, (c_2 l))), (4, (36, [cI 0, .nil]))] ?_
 refine T.sg ?_
 refine TL.rx 1 [(10, (.one (.ptr 800 0)))] [] ?_
 have nn1 := @bf b p_5 s
 refine TL.c (Step.x2 800 (ok_impl_reader__num b s p_5 p_1)) ?_
 refine TL.rl [(5, (.one (.ptr 5 0)))] [(5, (36, [cI (aa b s).2, .nil]))] ?_
 refine T.sg ?_
 refine TL.rx 3 [(13, (.one (.ptr 800 0))), (15, (pI l.f0))] [] ?_
 refine TL.ad (l.f0 + 1) ?_
 have nn2 := @bf b p_5 (aa b s).1
 refine TL.c (Step.x2 800 (ok_impl_reader__below b (aa b s).1 (l.f0 + 1) 3 p_5 p_1)) ?_
 refine TL.rl [(6, (pI (am b (aa b s).1 (l.f0 + 1) 3).2)), (7, (pI (-1)))] [] ?_
 refine T.seq ?_
 refine T.sr [(8, (pI 0))] [] ?_
 refine T.block ?_
 refine T.nilrow 5 1 100501 111 36 (.sl 3 []) [cI (aa b s).2, .nil] rfl rfl rfl (fun x hx => by have := hp x hx; omega) rfl rfl (D.wf_nil _) ?_
 refine T.loop (ι := Nat × SRS × Int × (List SEntry)) (fun xx_ => { tm := [(1, (.one (.ptr 800 0))), (2, (.one (.ptr 2 0))), (4, (.one (.ptr 4 0))), (5, (.one (.ptr 5 0))), (6, (pI (am b (aa b s).1 (l.f0 + 1) 3).2)), (8, (pI ((xx_.1) : Int))), (7, (pI (xx_.2.2.1)))], rows := [(100501, (111, (.sl 3 ((xx_.2.2.2).map SEntry.cells))))], boxes := [(800, (151, [cS b, cI (xx_.2.1).f0, cI (xx_.2.1).f1])), (2, (46, (c_2 l))), (4, (36, [cI 0, .nil])), (5, (36, (c_65 b s)))] }) (fun xx_ => ((xx_.1) : Int) ≤ (rdTc1 l b s).2 ∧ ((xx_.2.1).f1 = 0 → (rdTc1 l b s).2 ≤ 10) ∧ (xx_.2.2.2).length = (xx_.1) ∧ rdEs l b (aa b s).2 ((rdTc1 l b s).2.toNat - (xx_.1)) (xx_.2.1) (xx_.2.2.1) (xx_.2.2.2) = rdEs l b (aa b s).2 (rdTc1 l b s).2.toNat (rdTc1 l b s).1 (-1) []) (fun xx_ => ((rdTc1 l b s).2).toNat - (xx_.1)) (0, (am b (aa b s).1 (l.f0 + 1) 3).1, (-1), []) ?_ ?_ ?_
 · refine Env.le_mk ⟨rfl, rfl, rfl, rfl, rfl, ?_, ?_, trivial⟩ ⟨?_, trivial⟩ ⟨?_, rfl, rfl, rfl, trivial⟩ <;> exact p_12
 · (dsimp only; refine ⟨by omega, fun h_ => by first | exact rdTc1_z (fun _ => h2_) h_ | omega, rfl, rfl⟩)
 intro xx_ hx
 obtain ⟨i, q, la, es⟩ := xx_
 try dsimp only at hx ⊢
 obtain ⟨hx1, hx2, hx3, hx4⟩ := hx
 refine T.seq (T.sg ?_)
 refine TL.rx 4 [(21, (pB (decide ((i : Int) < (am b (aa b s).1 (l.f0 + 1) 3).2))))] [] ?_
 rcases Bool.eq_false_or_eq_true (decide ((i : Int) < (am b (aa b s).1 (l.f0 + 1) 3).2)) with hb3 | hb3
 ·refine TL.known 21 hb3 rfl ?_
  have hb3' := hb3
  replace hb3' := of_decide_eq_true hb3'
  refine TL.rl [(27, (pB (decide (q.f1 = 0))))] [] ?_
  refine T.ci rfl (fun h4 => ?_) (fun h4 => ?_)
  ·refine T.skip (T.seq (T.block (T.sg ?_)))
   refine TL.rx 3 [(30, (.one (.ptr 800 0))), (32, (pI l.f0))] [] ?_
   have nn5 := @bf b p_5 q
   refine TL.c (Step.x2 800 (ok_impl_reader__below b q l.f0 5 p_5 p_1)) ?_
   refine TL.rl [(9, (.one (.ptr 9 0)))] [(9, (111, [cI (am b q l.f0 5).2, cI 0, .nil]))] ?_
   refine T.sg ?_
   refine TL.rx 5 [(35, (.one (.ptr 800 0))), (39, (pB (decide (la < (am b q l.f0 5).2))))] [] ?_
   refine TL.c (Step.x2 800 (ok_impl_reader__must b (am b q l.f0 5).1 (decide (la < (am b q l.f0 5).2)) 6 p_5 p_1)) ?_
   refine TL.nil ?_
   refine T.sr [(7, (pI (am b q l.f0 5).2))] [] ?_
   refine T.sg ?_
   refine TL.rx 3 [(43, (.one (.ptr 800 0))), (45, (pI (aa b s).2))] [] ?_
   have nn6 := @bf b p_5 (ae (am b q l.f0 5).1 (decide (la < (am b q l.f0 5).2)) 6)
   refine TL.c (Step.x2 800 (ok_impl_reader__below b (ae (am b q l.f0 5).1 (decide (la < (am b q l.f0 5).2)) 6) (aa b s).2 6 p_5 p_1)) ?_
   refine TL.rl [] [(9, (111, [cI (am b q l.f0 5).2, cI (am b (ae (am b q l.f0 5).1 (decide (la < (am b q l.f0 5).2)) 6) (aa b s).2 6).2, .nil]))] ?_
   refine T.sg ?_
   refine TL.rx 1 [(48, (.one (.ptr 800 0)))] [] ?_
   have nn7 := rdRaw_len b (am b (ae (am b q l.f0 5).1 (decide (la < (am b q l.f0 5).2)) 6) (aa b s).2 6).1 32
   refine TL.c (Step.x2 800 (ok_impl_reader__hash b (am b (ae (am b q l.f0 5).1 (decide (la < (am b q l.f0 5).2)) 6) (aa b s).2 6).1 p_5 p_1)) ?_
   refine TL.rl [] [(9, (111, (c_51 b l la q s)))] ?_
   refine T.region ?_
   refine TL.rx 3 [(52, (.one (.row 100501 []))), (53, (.agg (c_51 b l la q s)))] [] ?_
   refine TL.c (Step.lit (e := 111) (z := 3) (by_ := 40) (xs := [.tmp 53]) (pss := [(c_51 b l la q s)]) (es := [(.int .i64 (am b q l.f0 5).2), (.int .i64 (am b (ae (am b q l.f0 5).1 (decide (la < (am b q l.f0 5).2)) 6) (aa b s).2 6).2), (.ints .u8 (af b (am b (ae (am b q l.f0 5).1 (decide (la < (am b q l.f0 5).2)) 6) (aa b s).2 6).1 32).2)]) (ss := [4049]) (d := (.sl 3 ([(⟨(am b q l.f0 5).2, (am b (ae (am b q l.f0 5).1 (decide (la < (am b q l.f0 5).2)) 6) (aa b s).2 6).2, (af b (am b (ae (am b q l.f0 5).1 (decide (la < (am b q l.f0 5).2)) 6) (aa b s).2 6).1 32).2⟩ : SEntry)].map SEntry.cells))) rfl rfl (lt_ok rfl) p_7 rfl rfl (.cons rfl .nil) p_105 (le_ok rfl) (le_ok rfl) rfl (.val rfl (.val rfl (.row rfl p_105 .nil))) rfl p_105 (fun x hx => by have := hp x hx; omega) rfl (wf_map SEntry.len _) rfl rfl) ?_
   refine TL.c (Step.ap 111 3 40 (.sl 3 ([(⟨(am b q l.f0 5).2, (am b (ae (am b q l.f0 5).1 (decide (la < (am b q l.f0 5).2)) 6) (aa b s).2 6).2, (af b (am b (ae (am b q l.f0 5).1 (decide (la < (am b q l.f0 5).2)) 6) (aa b s).2 6).1 32).2⟩ : SEntry)].map SEntry.cells)) (.sl 3 ((es ++ [(⟨(am b q l.f0 5).2, (am b (ae (am b q l.f0 5).1 (decide (la < (am b q l.f0 5).2)) 6) (aa b s).2 6).2, (af b (am b (ae (am b q l.f0 5).1 (decide (la < (am b q l.f0 5).2)) 6) (aa b s).2 6).1 32).2⟩ : SEntry)]).map SEntry.cells)) (.move rfl)) ?_
   refine TL.rl [] [(5, (36, (c_65 b s)))] ?_
   refine T.region ?_
   refine TL.rx 1 [(28, (pI (i : Int)))] [] ?_
   refine TL.ad ((i : Int) + 1) ?_
   refine TL.rl [(8, (pI ((i : Int) + 1)))] [] ?_
   refine ⟨(i + 1, (af b (am b (ae (am b q l.f0 5).1 (decide (la < (am b q l.f0 5).2)) 6) (aa b s).2 6).1 32).1, (am b q l.f0 5).2, (es ++ [(⟨(am b q l.f0 5).2, (am b (ae (am b q l.f0 5).1 (decide (la < (am b q l.f0 5).2)) 6) (aa b s).2 6).2, (af b (am b (ae (am b q l.f0 5).1 (decide (la < (am b q l.f0 5).2)) 6) (aa b s).2 6).1 32).2⟩ : SEntry)])), by (try dsimp only); (refine ⟨by omega, fun _ => by omega, by simp only [List.length_append, List.length_cons, List.length_nil]; first | done | omega, ?_⟩; exact (rdEs_next p_4 p_4).symm.trans hx4), by (dsimp only; omega), Env.le_mk ⟨rfl, rfl, rfl, rfl, rfl, ?_, ?_, trivial⟩ ⟨?_, trivial⟩ ⟨?_, rfl, rfl, rfl, trivial⟩⟩ <;> exact p_12
  refine T.exit ?_
  refine T.sr [] [(4, (36, (c_65 b s)))] ?_
  refine T.ret ?_
  exact p_134
 refine TL.known 21 hb3 rfl ?_
 have hb3' := hb3
 replace hb3' := of_decide_eq_false hb3'
 refine TL.rl [(27, (pB false))] [] ?_
 refine T.cf (T.exit ?_)
 refine T.sr [] [(4, (36, (c_65 b s)))] ?_
 refine T.ret ?_
 exact p_134
theorem ok_impl_Tc_ (l : SLimits) (b : List Int) (a : Int) (h0_ : U8s b) (h1_ : b.length ≤ 1048576) : RO Tryz.prog 80 [.agg l.cells, .one (.ints .u8 b), .one (.int .i64 a), .one (.fn 81)] [(true, [.rd (.int .i64 (getTc l b a).1.f0), .own 111 (.sl 3 ((getTc l b a).1.f1.map SEntry.cells))]), (false, [.rd (.int .i64 (getTc l b a).2.1)]), (false, [.rd (.int .i64 (getTc l b a).2.2)])] := by
 refine RO.intro Tryz.func80 rfl 41 rfl (le_ok rfl) fun w Z => ?_
 refine T.bnd 1 0 rfl rfl fun hb_1_0 => ?_
 simp only [D.size, List.length_map] at hb_1_0
 refine T.sr [(4, (.one (.ptr 4 0))), (8, (.one (.ptr 8 0))), (9, (pI 0)), (10, (pI 0))] [(4, (46, (c_2 l))), (8, (36, [cI 0, .nil]))] ?_
 refine T.sr [(11, (.one (.ptr 11 0)))] [(11, (36, [cI 0, .nil]))] ?_
 refine T.seq (T.sg ?_)
 refine TL.rx 1 [(14, (.agg (c_2 l)))] [] ?_
 refine TL.c (Step.cz (ok_impl_LimitsOk l)) ?_
 refine TL.rl [(16, (pB (!(limOk l))))] [] ?_
 refine T.cn rfl (fun h1 => ?_) (fun h1 => ?_)
 ·refine T.sr [(9, (pI 0)), (10, (pI 5))] [(8, (36, [cI 0, .nil]))] ?_
  refine T.ret ?_
  exact p_157
 refine T.skip ?_
 refine T.sr [(12, (.one (.ptr 21 0)))] [(21, (151, [cS b, cI a, cI 0]))] ?_
 refine T.sg ?_
 refine TL.rx 3 [(22, (.one (.d (.fn 81)))), (23, (.agg (c_2 l))), (24, (.one (.ptr 21 0)))] [] ?_
 have nn2 := @rdTc_sm l b (⟨a, 0⟩ : SRS) p_53 (by first | assumption | exact rs0_z' | exact fun _ => by assumption)
 refine TL.c (Step.x2 21 (ok_impl_readTc b (⟨a, 0⟩ : SRS) l p_5 p_1 p_5)) ?_
 refine TL.rl [(13, (.one (.ptr 13 0)))] [(13, (36, (c_62 a b l)))] ?_
 refine T.seq ?_
 refine T.sr [(30, (pB (decide ((rdTc l b (⟨a, 0⟩ : SRS)).1.f1 ≠ 0))))] [] ?_
 refine T.ci rfl (fun h3 => ?_) (fun h3 => ?_)
 ·refine T.seq ?_
  refine T.drawX [{ dst := some 31, pv := (.agg [cI 0, .nil]) }, { dst := some 32, pv := (.one (.ptr 21 0)) }, { dst := some 33, pv := (.one (.ptr 21 0)) }, { dst := some 34, pv := (.one (.ptr 21 2)) }, { dst := some 35, pv := (pI (rdTc l b (⟨a, 0⟩ : SRS)).1.f1) }, { box := some (8, (36, [cI 0, .nil])) }, { dst := some 9, pv := (pI 0) }, { dst := some 10, pv := (pI (rdTc l b (⟨a, 0⟩ : SRS)).1.f1) }] p_7 p_7 ?_ ?_
  ·refine .sk 8 ?_
   exact .nil _ _
  refine TL.wk [(8, (.one (.ptr 8 0))), (9, (pI 0)), (10, (pI (rdTc l b (⟨a, 0⟩ : SRS)).1.f1)), (12, (.one (.ptr 21 0))), (13, (.one (.ptr 13 0)))] [(5025, (111, (.sl 3 ((rdTc l b (⟨a, 0⟩ : SRS)).2.f1.map SEntry.cells))))] [(4, (46, (c_2 l))), (8, (36, [cI 0, .nil])), (11, (36, [cI 0, .nil])), (21, (151, [cS b, cI (rdTc l b (⟨a, 0⟩ : SRS)).1.f0, cI (rdTc l b (⟨a, 0⟩ : SRS)).1.f1])), (13, (36, (c_62 a b l)))] ?_
  refine TL.nil (T.ret ?_)
  exact p_157
 refine T.skip (T.seq ?_)
 refine T.drawX [{ dst := some 36, pv := (.agg (c_62 a b l)) }, { dst := some 37, pv := (.one (.ptr 21 0)) }, { dst := some 38, pv := (.one (.ptr 21 0)) }, { dst := some 39, pv := (.one (.ptr 21 1)) }, { dst := some 40, pv := (pI (rdTc l b (⟨a, 0⟩ : SRS)).1.f0) }, { box := some (8, (36, (c_62 a b l))) }, { dst := some 9, pv := (pI (rdTc l b (⟨a, 0⟩ : SRS)).1.f0) }, { dst := some 10, pv := (pI 0) }] p_7 p_7 ?_ ?_
 ·refine .sk 8 ?_
  exact .nil _ _
 refine TL.wk [(8, (.one (.ptr 8 0))), (9, (pI (rdTc l b (⟨a, 0⟩ : SRS)).1.f0)), (10, (pI 0))] [(5025, (111, (.sl 3 ((rdTc l b (⟨a, 0⟩ : SRS)).2.f1.map SEntry.cells))))] [(4, (46, (c_2 l))), (8, (36, (c_62 a b l))), (11, (36, [cI 0, .nil])), (21, (151, [cS b, cI (rdTc l b (⟨a, 0⟩ : SRS)).1.f0, cI (rdTc l b (⟨a, 0⟩ : SRS)).1.f1])), (13, (36, (c_62 a b l)))] ?_
 refine TL.nil (T.ret ?_)
 refine ⟨_, (.cons rfl (.cons rfl (.cons rfl .nil))), rfl, _, (.r ?_ (.o ?_ (.r ?_ (.r ?_ .nil))))⟩ <;> exact p_33
theorem ok_impl_GetTc (l : SLimits) (b : List Int) (a : Int) (h0_ : U8s b) (h1_ : b.length ≤ 1048576) : RO Tryz.prog 32 [.agg l.cells, .one (.ints .u8 b), .one (.int .i64 a)] [(true, [.rd (.int .i64 (getTc l b a).1.f0), .own 111 (.sl 3 ((getTc l b a).1.f1.map SEntry.cells))]), (false, [.rd (.int .i64 (getTc l b a).2.1)]), (false, [.rd (.int .i64 (getTc l b a).2.2)])] := by
 refine RO.intro Tryz.func32 rfl 16 rfl (le_ok rfl) fun w Z => ?_
 refine T.bnd 1 0 rfl rfl fun hb_1_0 => ?_
 simp only [D.size, List.length_map] at hb_1_0
 refine T.sr [(3, (.one (.ptr 3 0))), (6, (.one (.ptr 6 0))), (7, (pI 0)), (8, (pI 0))] [(3, (46, (c_2 l))), (6, (36, [cI 0, .nil]))] ?_
 refine T.sg ?_
 refine TL.rx 3 [(9, (.agg (c_2 l))), (10, (pS b)), (11, (pI a))] [] ?_
 have nn1 := @getTc_sm l b a p_53
 refine TL.c (Step.cz (ok_impl_Tc_ l b a p_5 p_1)) ?_
 refine TL.rl [(7, (pI (getTc l b a).2.1)), (8, (pI (getTc l b a).2.2))] [(6, (36, [cI (getTc l b a).1.f0, .row 2012 []]))] ?_
 refine T.ret ?_
 refine ⟨_, (.cons rfl (.cons rfl (.cons rfl .nil))), rfl, _, (.r rfl (.o ?_ (.r rfl (.r rfl .nil))))⟩ <;> (rfl)
theorem ok_impl_Proof__closes (p : SProof) (h0_ : 1 ≤ p.f0.length) (h1_ : p.f0.length ≤ 1048576) : RO Tryz.prog 120 [.agg p.cells] [(false, [.rd (.bool (closes p))])] := by
 refine RO.intro Tryz.func120 rfl 26 rfl (le_ok rfl) fun w Z => ?_
 refine T.sr [(1, (.one (.ptr 1 0))), (2, (pB false))] [(1, (39, [.d (.sl 10 (p.f0.map SHead.cells)), cI p.f1.f0, cI p.f1.f1, cS p.f1.f2, cS p.f1.f3, .d (.bss p.f1.f4)]))] ?_
 refine T.sg ?_
 refine TL.rx 4 [(5, (.one (.d (.sl 10 (p.f0.map SHead.cells))))), (7, (.one (.d (.sl 10 (p.f0.map SHead.cells)))))] [] ?_
 refine TL.c (Step.len' (e := 31) (z := 10) (d := (.sl 10 (p.f0.map SHead.cells))) (n := p.f0.length) rfl rfl (lt_ok rfl) p_7 rfl rfl (by simp [D.size])) ?_
 refine TL.sb ((p.f0.length : Int) - 1) ?_
 refine TL.c (Step.index (e := 31) (z := 10) (i := ((p.f0.length : Int) - 1)) rfl rfl (lt_ok rfl) p_7 rfl rfl rfl (lt_ok rfl) rfl p_23 p_47) ?_
 refine TL.c (Step.load_agg (n := 10) (cs := (c_10 p)) rfl rfl (lt_ok rfl) p_7 rfl rfl p_52) ?_
 refine TL.rl [(3, (.one (.ptr 3 0)))] [(3, (31, (c_10 p)))] ?_
 refine T.sg ?_
 refine TL.rx 7 [(18, (pB (decide (p.f1.f0 = (p.f0.getD ((p.f0.length : Int) - 1).toNat default).f0))))] [] ?_
 rcases Bool.eq_false_or_eq_true (decide (p.f1.f0 = (p.f0.getD ((p.f0.length : Int) - 1).toNat default).f0)) with hb1 | hb1
 ·refine TL.known 18 hb1 rfl ?_
  refine TL.rl [(2, (pB (decide (p.f1.f1 = (p.f0.getD ((p.f0.length : Int) - 1).toNat default).f1))))] [] ?_
  refine T.ret ?_
  exact p_161
 refine TL.known 18 hb1 rfl ?_
 refine TL.rl [(2, (pB false))] [] ?_
 refine T.ret ?_
 exact p_161
theorem ok_impl_readProof (b : List Int) (s : SRS) (l : SLimits) (h0_ : U8s b) (h1_ : b.length ≤ 1048576) (h2_ : s.f1 = 0 → limOk l = true) : BX Tryz.prog 83 [.rd (.agg [(.int .i64 l.f0), (.int .i64 l.f1), (.int .i64 l.f2), (.int .i64 l.f3), (.int .i64 l.f4)]), .bx] 151 [.rd (.ints .u8 b), .rd (.int .i64 s.f0), .rd (.int .i64 s.f1)] [.rd (.ints .u8 b), .rd (.int .i64 (ay l b s).1.f0), .rd (.int .i64 (ay l b s).1.f1)] [(true, [.own 31 (.sl 10 ((ay l b s).2.f0.map SHead.cells)), .rd (.int .i64 (ay l b s).2.f1.f0), .rd (.int .i64 (ay l b s).2.f1.f1), .own 5 (.ints .u8 (ay l b s).2.f1.f2), .own 5 (.ints .u8 (ay l b s).2.f1.f3), .own 24 (.bss (ay l b s).2.f1.f4)])] := by
 refine BX.intro Tryz.func83 rfl 57 rfl (le_ok rfl) (le_ok rfl) fun w Z IX pin hp => ?_
 refine T.sr [(2, (.one (.ptr 2 0))), (4, (.one (.ptr 4 0)))] [(2, (46, (c_2 l))), (4, (39, c_40))] ?_
 refine T.sg ?_
 refine TL.rx 2 [(8, (.agg c_40)), (9, (.one (.ptr 800 0)))] [] ?_
 have nn1 := @bf b p_5 s
 refine TL.c (Step.x2 800 (ok_impl_reader__num b s p_5 p_1)) ?_
 refine TL.rl [(5, (.one (.ptr 5 0))), (6, (pI (aa b s).2))] [(5, (39, c_40))] ?_
 refine T.sg ?_
 refine TL.rx 3 [(11, (.one (.ptr 800 0))), (13, (pB (decide (3 ≤ (aa b s).2))))] [] ?_
 refine TL.c (Step.x2 800 (ok_impl_reader__must b (aa b s).1 (decide (3 ≤ (aa b s).2)) 5 p_5 p_1)) ?_
 refine TL.nil (T.sg ?_)
 refine TL.rx 5 [(15, (.one (.ptr 800 0))), (19, (pB (decide ((aa b s).2 ≤ l.f4))))] [] ?_
 refine TL.c (Step.x2 800 (ok_impl_reader__must b (ae (aa b s).1 (decide (3 ≤ (aa b s).2)) 5) (decide ((aa b s).2 ≤ l.f4)) 3 p_5 p_1)) ?_
 refine TL.nil (T.seq ?_)
 refine T.sr [(7, (pI 0))] [] ?_
 refine T.block ?_
 refine T.nilrow 5 0 100500 31 39 (.sl 10 []) c_40 rfl rfl rfl (fun x hx => by have := hp x hx; omega) rfl rfl (D.wf_nil _) ?_
 refine T.loop (ι := Nat × SRS × (List SHead)) (fun xx_ => { tm := [(1, (.one (.ptr 800 0))), (2, (.one (.ptr 2 0))), (4, (.one (.ptr 4 0))), (5, (.one (.ptr 5 0))), (6, (pI (aa b s).2)), (7, (pI ((xx_.1) : Int)))], rows := [(100500, (31, (.sl 10 ((xx_.2.2).map SHead.cells))))], boxes := [(800, (151, [cS b, cI (xx_.2.1).f0, cI (xx_.2.1).f1])), (2, (46, (c_2 l))), (4, (39, c_40)), (5, (39, [.row 100500 [], cI 0, cI 0, .nil, .nil, .nil]))] }) (fun xx_ => ((xx_.1) : Int) ≤ (aa b s).2 ∧ ((xx_.2.1).f1 = 0 → 3 ≤ (aa b s).2 ∧ (aa b s).2 ≤ 5) ∧ (xx_.2.2).length = (xx_.1) ∧ rdHs l b ((aa b s).2.toNat - (xx_.1)) (xx_.2.1) (xx_.2.2) = rdHs l b (aa b s).2.toNat (rdProof0 l b s) []) (fun xx_ => ((aa b s).2).toNat - (xx_.1)) (0, (ae (ae (aa b s).1 (decide (3 ≤ (aa b s).2)) 5) (decide ((aa b s).2 ≤ l.f4)) 3), []) ?_ ?_ ?_
 · refine Env.le_mk ⟨rfl, rfl, rfl, rfl, rfl, ?_, trivial⟩ ⟨?_, trivial⟩ ⟨?_, rfl, rfl, rfl, trivial⟩ <;> exact p_12
 · (dsimp only; refine ⟨by omega, fun h_ => by first | exact rdProof0_z h2_ h_ | omega, rfl, rfl⟩)
 intro xx_ hx
 obtain ⟨i, q, hs⟩ := xx_
 try dsimp only at hx ⊢
 obtain ⟨hx1, hx2, hx3, hx4⟩ := hx
 have hz_ := @rdQc_z l b q
 refine T.seq (T.sg ?_)
 refine TL.rx 4 [(24, (pB (decide ((i : Int) < (aa b s).2))))] [] ?_
 rcases Bool.eq_false_or_eq_true (decide ((i : Int) < (aa b s).2)) with hb2 | hb2
 ·refine TL.known 24 hb2 rfl ?_
  have hb2' := hb2
  replace hb2' := of_decide_eq_true hb2'
  refine TL.rl [(30, (pB (decide (q.f1 = 0))))] [] ?_
  refine T.ci rfl (fun h3 => ?_) (fun h3 => ?_)
  ·refine T.skip (T.seq (T.block ?_))
   have nn4 := @rdHead_sm l b q p_53
   have nn5 := @rdHead_ok l b q p_5
   refine T.drawX [{ dst := some 33, pv := (.one (.ptr 5 0)) }, { dst := some 34, pv := (.one (.row 100500 [])) }, { dst := some 35, pv := (.agg (c_2 l)) }, { dst := some 36, pv := (.one (.ptr 800 0)) }, { dst := some 37, pv := (.agg (c_38 b l q)), rows := [(13037, (24, (.bss (ag l b q).2.f5.f4))), (12037, (5, (.ints .u8 (ag l b q).2.f5.f3))), (11037, (5, (.ints .u8 (ag l b q).2.f5.f2))), (8037, (5, (.ints .u8 (ag l b q).2.f4))), (7037, (5, (.ints .u8 (ag l b q).2.f3)))], box := some (800, (151, [cS b, cI (ag l b q).1.f0, cI (ag l b q).1.f1])) }, { dst := some 38, pv := (.one (.row 38 [])), rows := [(38, (31, (.sl 10 ([(ag l b q).2].map SHead.cells))))], dead := [7037, 8037, 11037, 12037, 13037] }, { dst := some 39, pv := (.one (.row 500039 [])), rows := [(500039, (31, (.sl 10 ((hs ++ [(ag l b q).2]).map SHead.cells))))], dead := [100500, 38] }, { dst := some 40, pv := (.one (.ptr 5 0)) }, { box := some (5, (39, c_71)) }] p_7 p_7 ?_ ?_
   ·refine .sk 4 ?_
    refine .cons (fun E A => OpStep.plain rfl (Step.callXX2 (b := 800) (xs := [.tmp 35, .tmp 36]) (ps := [(.agg (c_2 l)), (.one (.ptr 800 0))]) (bps := (c_66 b q)) (ss := []) (g := .func 77) (t := 37) (ok_impl_readHead b q l p_5 p_1) rfl rfl p_24 rfl p_7 (evs_cons (A.g 35) (evs_cons (A.g 36) (rfl))) (.cons (.rd (.agg (.cons (.d _) (.cons (.d _) (.cons (.d _) (.cons (.d _) (.cons (.d _) .nil))))))) (.cons (.bx) .nil)) (A.b 800 (x := (151, _))) (.rd (.rd (.rd .nil))) rfl (handX_fresh (fun x_ hx_ => A.fresh x_ (by exact hx_))) (fun x hx => by have := hp x hx; omega) rfl p_107)) ?_
    refine .cons (fun E A => OpStep.plain rfl (Step.litX (e := 31) (z := 10) (by_ := 160) (xs := [.tmp 37]) (pss := [(c_38 b l q)]) (es := [(.int .i64 (ag l b q).2.f0), (.int .i64 (ag l b q).2.f1), (.int .i64 (ag l b q).2.f2), (.ints .u8 (ag l b q).2.f3), (.ints .u8 (ag l b q).2.f4), (.int .i64 (ag l b q).2.f5.f0), (.int .i64 (ag l b q).2.f5.f1), (.ints .u8 (ag l b q).2.f5.f2), (.ints .u8 (ag l b q).2.f5.f3), (.bss (ag l b q).2.f5.f4)]) (ss := [7037, 8037, 11037, 12037, 13037]) (d := (.sl 10 ([(ag l b q).2].map SHead.cells))) (t := 38) rfl rfl p_24 p_7 rfl rfl (.cons p_86 .nil) p_105 (le_ok rfl) (le_ok rfl) A.fn (.val rfl (.val rfl (.val rfl (.row (A.r 7037 (x := (5, _))) p_105 (.row (A.r 8037 (x := (5, _))) p_105 (.val rfl (.val rfl (.row (A.r 11037 (x := (5, _))) p_105 (.row (A.r 12037 (x := (5, _))) p_105 (.row (A.r 13037 (x := (24, _))) p_105 .nil)))))))))) (A.fresh _ (List.mem_singleton.2 rfl)) p_105 (fun x_ hx_ => by have := hp x_ hx_; omega) rfl (wf_map SHead.len _) rfl rfl)) ?_
    refine .cons (fun E A => OpStep.plain rfl (Step.appendX (e := 31) (z := 10) (by_ := 160) (d := (.sl 10 (hs.map SHead.cells))) (dy := (.sl 10 ([(ag l b q).2].map SHead.cells))) (d' := (.sl 10 ((hs ++ [(ag l b q).2]).map SHead.cells))) (ss := [38]) 500039 (t := 39) rfl rfl p_24 p_7 (A.g 34) (A.r 100500 (x := (31, _))) rfl (lt_ok rfl) (A.g 38) (.move (A.r 38 (x := (31, _)))) p_105 app_sl p_21 p_21 (fun x_ hx_ => by have := hp x_ hx_; omega) (A.fresh _ (List.mem_singleton.2 rfl)) p_105 (fun x_ hx_ => by have := hp x_ hx_; omega))) ?_
    refine .sk 2 ?_
    exact .nil _ _
   refine TL.wk [(1, (.one (.ptr 800 0))), (2, (.one (.ptr 2 0))), (4, (.one (.ptr 4 0))), (5, (.one (.ptr 5 0))), (6, (pI (aa b s).2)), (7, (pI (i : Int)))] [(500039, (31, (.sl 10 ((hs ++ [(ag l b q).2]).map SHead.cells))))] [(800, (151, [cS b, cI (ag l b q).1.f0, cI (ag l b q).1.f1])), (2, (46, (c_2 l))), (4, (39, c_40)), (5, (39, c_71))] ?_
   refine TL.ren 500039 100500 rfl (fun x hx => by have := hp x hx; omega) ?_
   refine TL.nil (T.region ?_)
   refine TL.rx 1 [(31, (pI (i : Int)))] [] ?_
   refine TL.ad ((i : Int) + 1) ?_
   refine TL.rl [(7, (pI ((i : Int) + 1)))] [] ?_
   refine ⟨(i + 1, (ag l b q).1, (hs ++ [(ag l b q).2])), by (try dsimp only); (refine ⟨by omega, fun _ => by omega, by simp only [List.length_append, List.length_cons, List.length_nil]; first | done | omega, ?_⟩; exact (rdHs_next p_4 p_4).symm.trans hx4), by (dsimp only; omega), Env.le_mk ⟨rfl, rfl, rfl, rfl, rfl, ?_, trivial⟩ ⟨?_, trivial⟩ ⟨?_, rfl, rfl, rfl, trivial⟩⟩ <;> exact p_12
  refine T.exit (T.sg ?_)
  refine TL.rx 2 [(41, (.agg (c_2 l))), (42, (.one (.ptr 800 0)))] [] ?_
  have nn6 := @rdQc_sm l b q p_53
  have nn7 := @rdQc_ok l b q p_5
  refine TL.c (Step.x2 800 (ok_impl_readQc b q l p_5 p_1)) ?_
  refine TL.rl [] [(5, (39, (c_12 b l q)))] ?_
  refine T.sg ?_
  refine TL.rx 7 [(45, (.one (.ptr 800 0))), (51, (pB (decide ((rdQc l b q).1.f1 ≠ 0))))] [] ?_
  rcases Bool.eq_false_or_eq_true (decide ((rdQc l b q).1.f1 ≠ 0)) with hb8 | hb8
  ·refine TL.known 51 hb8 rfl ?_
   have hb8' := hb8
   replace hb8' := of_decide_eq_true hb8'
   refine TL.rx 3 [(54, (pB true))] [] ?_
   refine TL.c (Step.x2 800 (ok_impl_reader__must b (rdQc l b q).1 true 6 p_5 p_1)) ?_
   refine TL.nil ?_
   refine T.sr [] [(4, (39, (c_12 b l q)))] ?_
   refine T.ret ?_
   exact p_127
  refine TL.known 51 hb8 rfl ?_
  have hb8' := hb8
  replace hb8' := of_decide_eq_false hb8'
  refine TL.rx 1 [(52, (.agg (c_12 b l q)))] [] ?_
  refine TL.gy 51 (Step.call (f := 120) (xs := [.tmp 52]) (ps := [(.agg (c_12 b l q))]) false (g := .func 120) rfl rfl (lt_ok rfl) rfl p_7 rfl (.cons (.agg (.cons (.row rfl rfl rfl rfl) (.cons (.d _) (.cons (.d _) (.cons (.row rfl rfl rfl rfl) (.cons (.row rfl rfl rfl rfl) (.cons (.row rfl rfl rfl rfl) .nil))))))) .nil) (ok_impl_Proof__closes (⟨hs, (rdQc l b q).2⟩ : SProof) (by first | omega | assumption | (dsimp only; omega)) (by first | exact s0.1 | omega | (dsimp only; omega))) (.inr rfl) rfl (fun x hx => by have := hp x hx; omega) rfl) ?_
  refine TL.rx 1 [(54, (pB (closes (⟨hs, (rdQc l b q).2⟩ : SProof))))] [] ?_
  refine TL.c (Step.x2 800 (ok_impl_reader__must b (rdQc l b q).1 (closes (⟨hs, (rdQc l b q).2⟩ : SProof)) 6 p_5 p_1)) ?_
  refine TL.nil ?_
  refine T.sr [] [(4, (39, (c_12 b l q)))] ?_
  refine T.ret ?_
  exact p_127
 refine TL.known 24 hb2 rfl ?_
 have hb2' := hb2
 replace hb2' := of_decide_eq_false hb2'
 refine TL.rl [(30, (pB false))] [] ?_
 refine T.cf (T.exit (T.sg ?_))
 refine TL.rx 2 [(41, (.agg (c_2 l))), (42, (.one (.ptr 800 0)))] [] ?_
 have nn9 := @rdQc_sm l b q p_53
 have nn10 := @rdQc_ok l b q p_5
 refine TL.c (Step.x2 800 (ok_impl_readQc b q l p_5 p_1)) ?_
 refine TL.rl [] [(5, (39, (c_12 b l q)))] ?_
 refine T.sg ?_
 refine TL.rx 7 [(45, (.one (.ptr 800 0))), (51, (pB (decide ((rdQc l b q).1.f1 ≠ 0))))] [] ?_
 rcases Bool.eq_false_or_eq_true (decide ((rdQc l b q).1.f1 ≠ 0)) with hb11 | hb11
 ·refine TL.known 51 hb11 rfl ?_
  have hb11' := hb11
  replace hb11' := of_decide_eq_true hb11'
  refine TL.rx 3 [(54, (pB true))] [] ?_
  refine TL.c (Step.x2 800 (ok_impl_reader__must b (rdQc l b q).1 true 6 p_5 p_1)) ?_
  refine TL.nil ?_
  refine T.sr [] [(4, (39, (c_12 b l q)))] ?_
  refine T.ret ?_
  exact p_127
 refine TL.known 51 hb11 rfl ?_
 have hb11' := hb11
 replace hb11' := of_decide_eq_false hb11'
 refine TL.rx 1 [(52, (.agg (c_12 b l q)))] [] ?_
 refine TL.gy 51 (Step.call (f := 120) (xs := [.tmp 52]) (ps := [(.agg (c_12 b l q))]) false (g := .func 120) rfl rfl (lt_ok rfl) rfl p_7 rfl (.cons (.agg (.cons (.row rfl rfl rfl rfl) (.cons (.d _) (.cons (.d _) (.cons (.row rfl rfl rfl rfl) (.cons (.row rfl rfl rfl rfl) (.cons (.row rfl rfl rfl rfl) .nil))))))) .nil) (ok_impl_Proof__closes (⟨hs, (rdQc l b q).2⟩ : SProof) (by first | omega | assumption | (dsimp only; omega)) (by first | exact s0.1 | omega | (dsimp only; omega))) (.inr rfl) rfl (fun x hx => by have := hp x hx; omega) rfl) ?_
 refine TL.rx 1 [(54, (pB (closes (⟨hs, (rdQc l b q).2⟩ : SProof))))] [] ?_
 refine TL.c (Step.x2 800 (ok_impl_reader__must b (rdQc l b q).1 (closes (⟨hs, (rdQc l b q).2⟩ : SProof)) 6 p_5 p_1)) ?_
 refine TL.nil ?_
 refine T.sr [] [(4, (39, (c_12 b l q)))] ?_
 refine T.ret ?_
 exact p_127
theorem ok_impl_Proof_ (l : SLimits) (b : List Int) (a : Int) (h0_ : U8s b) (h1_ : b.length ≤ 1048576) : RO Tryz.prog 82 [.agg l.cells, .one (.ints .u8 b), .one (.int .i64 a), .one (.fn 83)] [(true, [.own 31 (.sl 10 ((getProof l b a).1.f0.map SHead.cells)), .rd (.int .i64 (getProof l b a).1.f1.f0), .rd (.int .i64 (getProof l b a).1.f1.f1), .own 5 (.ints .u8 (getProof l b a).1.f1.f2), .own 5 (.ints .u8 (getProof l b a).1.f1.f3), .own 24 (.bss (getProof l b a).1.f1.f4)]), (false, [.rd (.int .i64 (getProof l b a).2.1)]), (false, [.rd (.int .i64 (getProof l b a).2.2)])] := by
 refine RO.intro Tryz.func82 rfl 41 rfl (le_ok rfl) fun w Z => ?_
 refine T.bnd 1 0 rfl rfl fun hb_1_0 => ?_
 simp only [D.size, List.length_map] at hb_1_0
 refine T.sr [(4, (.one (.ptr 4 0))), (8, (.one (.ptr 8 0))), (9, (pI 0)), (10, (pI 0))] [(4, (46, (c_2 l))), (8, (39, c_40))] ?_
 refine T.sr [(11, (.one (.ptr 11 0)))] [(11, (39, c_40))] ?_
 refine T.seq (T.sg ?_)
 refine TL.rx 1 [(14, (.agg (c_2 l)))] [] ?_
 refine TL.c (Step.cz (ok_impl_LimitsOk l)) ?_
 refine TL.rl [(16, (pB (!(limOk l))))] [] ?_
 refine T.cn rfl (fun h1 => ?_) (fun h1 => ?_)
 ·refine T.sr [(9, (pI 0)), (10, (pI 5))] [(8, (39, c_40))] ?_
  refine T.ret ?_
  exact p_147
 refine T.skip ?_
 refine T.sr [(12, (.one (.ptr 21 0)))] [(21, (151, [cS b, cI a, cI 0]))] ?_
 refine T.sg ?_
 refine TL.rx 3 [(22, (.one (.d (.fn 83)))), (23, (.agg (c_2 l))), (24, (.one (.ptr 21 0)))] [] ?_
 have nn2 := @rdProof_sm l b (⟨a, 0⟩ : SRS) p_53 p_114
 refine TL.c (Step.x2 21 (ok_impl_readProof b (⟨a, 0⟩ : SRS) l p_5 p_1 p_114)) ?_
 refine TL.rl [(13, (.one (.ptr 13 0)))] [(13, (39, (c_36 a b l)))] ?_
 refine T.seq ?_
 refine T.sr [(30, (pB (decide ((ay l b (⟨a, 0⟩ : SRS)).1.f1 ≠ 0))))] [] ?_
 refine T.ci rfl (fun h3 => ?_) (fun h3 => ?_)
 ·refine T.seq ?_
  refine T.drawX [{ dst := some 31, pv := (.agg c_40) }, { dst := some 32, pv := (.one (.ptr 21 0)) }, { dst := some 33, pv := (.one (.ptr 21 0)) }, { dst := some 34, pv := (.one (.ptr 21 2)) }, { dst := some 35, pv := (pI (ay l b (⟨a, 0⟩ : SRS)).1.f1) }, { box := some (8, (39, c_40)) }, { dst := some 9, pv := (pI 0) }, { dst := some 10, pv := (pI (ay l b (⟨a, 0⟩ : SRS)).1.f1) }] p_7 p_7 ?_ ?_
  ·refine .sk 8 ?_
   exact .nil _ _
  refine TL.wk [(8, (.one (.ptr 8 0))), (9, (pI 0)), (10, (pI (ay l b (⟨a, 0⟩ : SRS)).1.f1)), (12, (.one (.ptr 21 0))), (13, (.one (.ptr 13 0)))] [(4025, (31, (.sl 10 ((ay l b (⟨a, 0⟩ : SRS)).2.f0.map SHead.cells)))), (7025, (5, (.ints .u8 (ay l b (⟨a, 0⟩ : SRS)).2.f1.f2))), (8025, (5, (.ints .u8 (ay l b (⟨a, 0⟩ : SRS)).2.f1.f3))), (9025, (24, (.bss (ay l b (⟨a, 0⟩ : SRS)).2.f1.f4)))] [(4, (46, (c_2 l))), (8, (39, c_40)), (11, (39, c_40)), (21, (151, [cS b, cI (ay l b (⟨a, 0⟩ : SRS)).1.f0, cI (ay l b (⟨a, 0⟩ : SRS)).1.f1])), (13, (39, (c_36 a b l)))] ?_
  refine TL.nil (T.ret ?_)
  exact p_147
 refine T.skip (T.seq ?_)
 refine T.drawX [{ dst := some 36, pv := (.agg (c_36 a b l)) }, { dst := some 37, pv := (.one (.ptr 21 0)) }, { dst := some 38, pv := (.one (.ptr 21 0)) }, { dst := some 39, pv := (.one (.ptr 21 1)) }, { dst := some 40, pv := (pI (ay l b (⟨a, 0⟩ : SRS)).1.f0) }, { box := some (8, (39, (c_36 a b l))) }, { dst := some 9, pv := (pI (ay l b (⟨a, 0⟩ : SRS)).1.f0) }, { dst := some 10, pv := (pI 0) }] p_7 p_7 ?_ ?_
 ·refine .sk 8 ?_
  exact .nil _ _
 refine TL.wk [(8, (.one (.ptr 8 0))), (9, (pI (ay l b (⟨a, 0⟩ : SRS)).1.f0)), (10, (pI 0))] [(4025, (31, (.sl 10 ((ay l b (⟨a, 0⟩ : SRS)).2.f0.map SHead.cells)))), (7025, (5, (.ints .u8 (ay l b (⟨a, 0⟩ : SRS)).2.f1.f2))), (8025, (5, (.ints .u8 (ay l b (⟨a, 0⟩ : SRS)).2.f1.f3))), (9025, (24, (.bss (ay l b (⟨a, 0⟩ : SRS)).2.f1.f4)))] [(4, (46, (c_2 l))), (8, (39, (c_36 a b l))), (11, (39, c_40)), (21, (151, [cS b, cI (ay l b (⟨a, 0⟩ : SRS)).1.f0, cI (ay l b (⟨a, 0⟩ : SRS)).1.f1])), (13, (39, (c_36 a b l)))] ?_
 refine TL.nil (T.ret ?_)
 refine ⟨_, (.cons rfl (.cons rfl (.cons rfl .nil))), rfl, _, (.o ?_ (.r ?_ (.r ?_ (.o ?_ (.o ?_ (.o ?_ (.r ?_ (.r ?_ .nil))))))))⟩ <;> exact p_28
theorem ok_impl_GetProof (l : SLimits) (b : List Int) (a : Int) (h0_ : U8s b) (h1_ : b.length ≤ 1048576) : RO Tryz.prog 33 [.agg l.cells, .one (.ints .u8 b), .one (.int .i64 a)] [(true, [.own 31 (.sl 10 ((getProof l b a).1.f0.map SHead.cells)), .rd (.int .i64 (getProof l b a).1.f1.f0), .rd (.int .i64 (getProof l b a).1.f1.f1), .own 5 (.ints .u8 (getProof l b a).1.f1.f2), .own 5 (.ints .u8 (getProof l b a).1.f1.f3), .own 24 (.bss (getProof l b a).1.f1.f4)]), (false, [.rd (.int .i64 (getProof l b a).2.1)]), (false, [.rd (.int .i64 (getProof l b a).2.2)])] := by
 refine RO.intro Tryz.func33 rfl 16 rfl (le_ok rfl) fun w Z => ?_
 refine T.bnd 1 0 rfl rfl fun hb_1_0 => ?_
 simp only [D.size, List.length_map] at hb_1_0
 refine T.sr [(3, (.one (.ptr 3 0))), (6, (.one (.ptr 6 0))), (7, (pI 0)), (8, (pI 0))] [(3, (46, (c_2 l))), (6, (39, c_40))] ?_
 refine T.sg ?_
 refine TL.rx 3 [(9, (.agg (c_2 l))), (10, (pS b)), (11, (pI a))] [] ?_
 have nn1 := @getProof_sm l b a p_53
 refine TL.c (Step.cz (ok_impl_Proof_ l b a p_5 p_1)) ?_
 refine TL.rl [(7, (pI (getProof l b a).2.1)), (8, (pI (getProof l b a).2.2))] [(6, (39, [.row 1012 [], cI (getProof l b a).1.f1.f0, cI (getProof l b a).1.f1.f1, .row 4012 [], .row 5012 [], .row 6012 []]))] ?_
 refine T.ret ?_
 refine ⟨_, (.cons rfl (.cons rfl (.cons rfl .nil))), rfl, _, (.o ?_ (.r rfl (.r rfl (.o ?_ (.o ?_ (.o ?_ (.r rfl (.r rfl .nil))))))))⟩ <;> (rfl)
theorem ok_impl_PathLen_r (d_ : Nat) : ∀ (i : Int) (n : Int) (hd_ : n.toNat = d_) , RO Tryz.prog 121 [.one (.int .i64 i), .one (.int .i64 n)] [(false, [.rd (.int .i64 (az i n))])] := by
 refine Nat.strongRecOn d_ ?_
 intro d_ ih i n hd_ 
 subst hd_
 refine RO.intro Tryz.func121 rfl 36 rfl (le_ok rfl) fun w Z => ?_
 have hsb_ := splitAtT_bd n
 refine T.sr [(4, (pI 0))] [] ?_
 refine T.seq (T.sg ?_)
 refine TL.rx 3 [(8, (pB (decide (n < 2))))] [] ?_
 rcases Bool.eq_false_or_eq_true (decide (n < 2)) with hb1 | hb1
 ·refine TL.known 8 hb1 rfl ?_
  have hb1' := hb1
  replace hb1' := of_decide_eq_true hb1'
  refine TL.rl [(18, (pB true))] [] ?_
  refine T.ct ?_
  refine T.sr [(4, (pI 0))] [] ?_
  refine T.ret ?_
  exact p_132
 refine TL.known 8 hb1 rfl ?_
 have hb1' := hb1
 replace hb1' := of_decide_eq_false hb1'
 refine TL.rx 4 [(12, (pB (decide (1048576 < n))))] [] ?_
 rcases Bool.eq_false_or_eq_true (decide (1048576 < n)) with hb2 | hb2
 ·refine TL.known 12 hb2 rfl ?_
  have hb2' := hb2
  replace hb2' := of_decide_eq_true hb2'
  refine TL.rl [(18, (pB true))] [] ?_
  refine T.ct ?_
  refine T.sr [(4, (pI 0))] [] ?_
  refine T.ret ?_
  exact p_132
 refine TL.known 12 hb2 rfl ?_
 have hb2' := hb2
 replace hb2' := of_decide_eq_false hb2'
 refine TL.rx 2 [(13, (pI i)), (14, (pI n))] [] ?_
 refine TL.gy 12 (Step.bin (r := .int .i64 (n - 1)) rfl rfl (lt_ok rfl) rfl rfl (Bin.sub (a := n) (b := 1) p_54)) ?_
 refine TL.gy 12 (Step.cz (ok_impl_within i 0 (n - 1))) ?_
 refine TL.rl [(18, (pB (!(decide (0 ≤ i ∧ i ≤ (n - 1))))))] [] ?_
 refine T.cni rfl (fun h3 => ?_) (fun h3 => ?_)
 ·refine T.sr [(4, (pI 0))] [] ?_
  refine T.ret ?_
  exact p_132
 refine T.skip (T.sg ?_)
 refine TL.rx 1 [(19, (pI n))] [] ?_
 have nn4 := splitAtT_bd n
 refine TL.c (Step.cz (ok_impl_SplitAt n p_1)) ?_
 refine TL.rl [(5, (pI (ah n)))] [] ?_
 refine T.seq ?_
 refine T.sr [(23, (pB (decide (i < (ah n)))))] [] ?_
 refine T.ci rfl (fun h5 => ?_) (fun h5 => ?_)
 ·refine T.sg ?_
  refine TL.rx 2 [(24, (pI i)), (25, (pI (ah n)))] [] ?_
  have nn6 := pathLenT_bd (i) ((ah n))
  refine TL.c (Step.call (f := 121) (xs := [.tmp 24, .tmp 25]) (ps := [(pI i), (pI (ah n))]) false (g := .func 121) rfl rfl (lt_ok rfl) rfl p_7 rfl (.cons (.one (.d _)) (.cons (.one (.d _)) .nil)) (ih (ah n).toNat p_4 i (ah n) rfl) (.inr rfl) rfl p_105 rfl) ?_
  refine TL.ad (1 + (az i (ah n))) ?_
  refine TL.rl [(4, (pI (1 + (az i (ah n)))))] [] ?_
  refine T.ret ?_
  exact p_132
 refine T.skip (T.sg ?_)
 refine TL.rx 2 [(28, (pI i)), (29, (pI (ah n)))] [] ?_
 refine TL.sb (i - (ah n)) ?_
 refine TL.rx 2 [(31, (pI n)), (32, (pI (ah n)))] [] ?_
 refine TL.sb (n - (ah n)) ?_
 have nn7 := pathLenT_bd ((i - (ah n))) ((n - (ah n)))
 refine TL.c (Step.call (f := 121) (xs := [.tmp 30, .tmp 33]) (ps := [(pI (i - (ah n))), (pI (n - (ah n)))]) false (g := .func 121) rfl rfl (lt_ok rfl) rfl p_7 rfl (.cons (.one (.d _)) (.cons (.one (.d _)) .nil)) (ih (n - (ah n)).toNat p_4 (i - (ah n)) (n - (ah n)) rfl) (.inr rfl) rfl p_105 rfl) ?_
 refine TL.ad (1 + (az (i - (ah n)) (n - (ah n)))) ?_
 refine TL.rl [(4, (pI (1 + (az (i - (ah n)) (n - (ah n))))))] [] ?_
 refine T.ret ?_
 exact p_132
theorem ok_impl_PathLen (i : Int) (n : Int) : RO Tryz.prog 121 [.one (.int .i64 i), .one (.int .i64 n)] [(false, [.rd (.int .i64 (az i n))])] := ok_impl_PathLen_r _ i n rfl 
theorem ok_impl_readIncl (b : List Int) (s : SRS) (l : SLimits) (h0_ : U8s b) (h1_ : b.length ≤ 1048576) : BX Tryz.prog 85 [.rd (.agg [(.int .i64 l.f0), (.int .i64 l.f1), (.int .i64 l.f2), (.int .i64 l.f3), (.int .i64 l.f4)]), .bx] 151 [.rd (.ints .u8 b), .rd (.int .i64 s.f0), .rd (.int .i64 s.f1)] [.rd (.ints .u8 b), .rd (.int .i64 (rdIncl l b s).1.f0), .rd (.int .i64 (rdIncl l b s).1.f1)] [(true, [.rd (.int .i64 (rdIncl l b s).2.f0), .rd (.int .i64 (rdIncl l b s).2.f1), .rd (.int .i64 (rdIncl l b s).2.f2), .own 5 (.ints .u8 (rdIncl l b s).2.f3), .own 24 (.bss (rdIncl l b s).2.f4)])] := by
 refine BX.intro Tryz.func85 rfl 54 rfl (le_ok rfl) (le_ok rfl) fun w Z IX pin hp => ?_
 have hb1_ := @bf b h0_ (aa b s).1
 have hp_ := pathLenT_bd (rdI2 l b s).2 (aa b (aa b s).1).2
 have hp2_ : rdIn l b s = (az (rdI2 l b s).2 (aa b (aa b s).1).2).toNat := rfl
 refine T.sr [(2, (.one (.ptr 2 0))), (4, (.one (.ptr 4 0)))] [(2, (46, (c_2 l))), (4, (41, c_50))] ?_
 refine T.sg ?_
 refine TL.rx 1 [(6, (.one (.ptr 800 0)))] [] ?_
 have nn1 := @bf b p_5 s
 refine TL.c (Step.x2 800 (ok_impl_reader__num b s p_5 p_1)) ?_
 refine TL.rx 1 [(8, (.one (.ptr 800 0)))] [] ?_
 have nn2 := @bf b p_5 (aa b s).1
 refine TL.c (Step.x2 800 (ok_impl_reader__num b (aa b s).1 p_5 p_1)) ?_
 refine TL.rl [(5, (.one (.ptr 5 0)))] [(5, (41, [cI (aa b s).2, cI (aa b (aa b s).1).2, cI 0, .nil, .nil]))] ?_
 refine T.sg ?_
 refine TL.rx 4 [(11, (.one (.ptr 800 0))), (14, (pB (decide (0 < (aa b (aa b s).1).2))))] [] ?_
 refine TL.c (Step.x2 800 (ok_impl_reader__must b (aa b (aa b s).1).1 (decide (0 < (aa b (aa b s).1).2)) 5 p_5 p_1)) ?_
 refine TL.nil (T.sg ?_)
 refine TL.rx 6 [(16, (.one (.ptr 800 0))), (21, (pB (decide ((aa b (aa b s).1).2 ≤ l.f2))))] [] ?_
 refine TL.c (Step.x2 800 (ok_impl_reader__must b (ae (aa b (aa b s).1).1 (decide (0 < (aa b (aa b s).1).2)) 5) (decide ((aa b (aa b s).1).2 ≤ l.f2)) 3 p_5 p_1)) ?_
 refine TL.nil (T.sg ?_)
 refine TL.rx 3 [(23, (.one (.ptr 800 0))), (25, (pI (aa b (aa b s).1).2))] [] ?_
 have nn3 := @bf b p_5 (ae (ae (aa b (aa b s).1).1 (decide (0 < (aa b (aa b s).1).2)) 5) (decide ((aa b (aa b s).1).2 ≤ l.f2)) 3)
 refine TL.c (Step.x2 800 (ok_impl_reader__below b (ae (ae (aa b (aa b s).1).1 (decide (0 < (aa b (aa b s).1).2)) 5) (decide ((aa b (aa b s).1).2 ≤ l.f2)) 3) (aa b (aa b s).1).2 5 p_5 p_1)) ?_
 refine TL.rl [] [(5, (41, [cI (aa b s).2, cI (aa b (aa b s).1).2, cI (am b (ae (ae (aa b (aa b s).1).1 (decide (0 < (aa b (aa b s).1).2)) 5) (decide ((aa b (aa b s).1).2 ≤ l.f2)) 3) (aa b (aa b s).1).2 5).2, .nil, .nil]))] ?_
 refine T.sg ?_
 refine TL.rx 3 [(28, (.one (.ptr 800 0))), (30, (pI l.f1))] [] ?_
 have nn4 := rdText_len b (am b (ae (ae (aa b (aa b s).1).1 (decide (0 < (aa b (aa b s).1).2)) 5) (decide ((aa b (aa b s).1).2 ≤ l.f2)) 3) (aa b (aa b s).1).2 5).1 l.f1
 refine TL.c (Step.x2 800 (ok_impl_reader__text b (am b (ae (ae (aa b (aa b s).1).1 (decide (0 < (aa b (aa b s).1).2)) 5) (decide ((aa b (aa b s).1).2 ≤ l.f2)) 3) (aa b (aa b s).1).2 5).1 l.f1 p_5 p_1)) ?_
 refine TL.rl [] [(5, (41, (c_39 b l s)))] ?_
 refine T.seq ?_
 refine T.sr [(37, (pB (decide ((rdText b (am b (ae (ae (aa b (aa b s).1).1 (decide (0 < (aa b (aa b s).1).2)) 5) (decide ((aa b (aa b s).1).2 ≤ l.f2)) 3) (aa b (aa b s).1).2 5).1 l.f1).1.f1 = 0))))] [] ?_
 refine T.ci rfl (fun h5 => ?_) (fun h5 => ?_)
 ·refine T.sg ?_
  refine TL.rx 4 [(39, (pI (am b (ae (ae (aa b (aa b s).1).1 (decide (0 < (aa b (aa b s).1).2)) 5) (decide ((aa b (aa b s).1).2 ≤ l.f2)) 3) (aa b (aa b s).1).2 5).2)), (41, (pI (aa b (aa b s).1).2))] [] ?_
  have nn6 := pathLenT_bd ((am b (ae (ae (aa b (aa b s).1).1 (decide (0 < (aa b (aa b s).1).2)) 5) (decide ((aa b (aa b s).1).2 ≤ l.f2)) 3) (aa b (aa b s).1).2 5).2) ((aa b (aa b s).1).2)
  refine TL.c (Step.call (f := 121) (xs := [.tmp 39, .tmp 41]) (ps := [(pI (am b (ae (ae (aa b (aa b s).1).1 (decide (0 < (aa b (aa b s).1).2)) 5) (decide ((aa b (aa b s).1).2 ≤ l.f2)) 3) (aa b (aa b s).1).2 5).2), (pI (aa b (aa b s).1).2)]) false (g := .func 121) rfl rfl (lt_ok rfl) rfl p_7 rfl (.cons (.one (.d _)) (.cons (.one (.d _)) .nil)) (ok_impl_PathLen (am b (ae (ae (aa b (aa b s).1).1 (decide (0 < (aa b (aa b s).1).2)) 5) (decide ((aa b (aa b s).1).2 ≤ l.f2)) 3) (aa b (aa b s).1).2 5).2 (aa b (aa b s).1).2) (.inr rfl) rfl (fun x hx => by have := hp x hx; omega) rfl) ?_
  refine TL.rl [(43, (pI 0))] [] ?_
  refine T.block ?_
  refine T.nilrow 5 4 100504 24 41 (.bss []) (c_39 b l s) rfl rfl rfl (fun x hx => by have := hp x hx; omega) rfl rfl trivial ?_
  refine T.loop (ι := Nat) (fun xx_ => { tm := [(1, (.one (.ptr 800 0))), (4, (.one (.ptr 4 0))), (5, (.one (.ptr 5 0))), (42, (pI (az (am b (ae (ae (aa b (aa b s).1).1 (decide (0 < (aa b (aa b s).1).2)) 5) (decide ((aa b (aa b s).1).2 ≤ l.f2)) 3) (aa b (aa b s).1).2 5).2 (aa b (aa b s).1).2))), (43, (pI (xx_ : Int)))], rows := [(4031, (5, (.ints .u8 (rdText b (am b (ae (ae (aa b (aa b s).1).1 (decide (0 < (aa b (aa b s).1).2)) 5) (decide ((aa b (aa b s).1).2 ≤ l.f2)) 3) (aa b (aa b s).1).2 5).1 l.f1).2))), (100504, (24, (.bss (av b (rdI3 l b s).1 xx_).2)))], boxes := [(800, (151, [cS b, cI (av b (rdI3 l b s).1 xx_).1.f0, cI (av b (rdI3 l b s).1 xx_).1.f1])), (2, (46, (c_2 l))), (4, (41, c_50)), (5, (41, (c_47 b l s)))] }) (fun xx_ => xx_ ≤ rdIn l b s) (fun xx_ => rdIn l b s - xx_) 0 ?_ ?_ ?_
  · refine Env.le_mk ⟨rfl, rfl, rfl, rfl, ?_, trivial⟩ ⟨rfl, ?_, trivial⟩ ⟨?_, rfl, rfl, rfl, trivial⟩ <;> exact p_12
  · exact Nat.zero_le _
  intro i hx
  try dsimp only at hx ⊢
  have hl_ := rdTags_len b (rdI3 l b s).1 i
  refine T.sr [(44, (pB (decide ((i : Int) < (az (am b (ae (ae (aa b (aa b s).1).1 (decide (0 < (aa b (aa b s).1).2)) 5) (decide ((aa b (aa b s).1).2 ≤ l.f2)) 3) (aa b (aa b s).1).2 5).2 (aa b (aa b s).1).2)))))] [] ?_
  refine T.seq ?_
  refine T.ci rfl (fun h7 => ?_) (fun h7 => ?_)
  ·refine T.skip (T.seq (T.block ?_))
   have nn8 := rdRaw_len b (av b (rdI3 l b s).1 i).1 32
   refine T.drawX [{ dst := some 45, pv := (.one (.ptr 5 4)) }, { dst := some 46, pv := (.one (.row 100504 [])) }, { dst := some 47, pv := (.one (.ptr 800 0)) }, { dst := some 48, pv := (.one (.row 4048 [])), rows := [(4048, (5, (.ints .u8 (af b (av b (rdI3 l b s).1 i).1 32).2)))], box := some (800, (151, [cS b, cI (af b (av b (rdI3 l b s).1 i).1 32).1.f0, cI (af b (av b (rdI3 l b s).1 i).1 32).1.f1])) }, { dst := some 49, pv := (.one (.row 49 [])), rows := [(49, (24, (.bss [(af b (av b (rdI3 l b s).1 i).1 32).2])))], dead := [4048] }, { dst := some 50, pv := (.one (.row 500050 [])), rows := [(500050, (24, (.bss ((av b (rdI3 l b s).1 i).2 ++ [(af b (av b (rdI3 l b s).1 i).1 32).2]))))], dead := [100504, 49] }, { dst := some 51, pv := (.one (.ptr 5 4)) }, { box := some (5, (41, (c_48 b l s))) }] p_7 p_7 ?_ ?_
   ·refine .sk 3 ?_
    refine .cons (fun E A => OpStep.plain rfl (Step.callXX2 (b := 800) (xs := [.tmp 47]) (ps := [(.one (.ptr 800 0))]) (bps := [cS b, cI (av b (rdI3 l b s).1 i).1.f0, cI (av b (rdI3 l b s).1 i).1.f1]) (ss := []) (g := .func 111) (t := 48) (ok_impl_reader__hash b (av b (rdI3 l b s).1 i).1 p_5 p_1) rfl rfl p_24 rfl p_7 (evs_cons (A.g 47) (rfl)) (.cons (.bx) .nil) (A.b 800 (x := (151, _))) (.rd (.rd (.rd .nil))) rfl (handX_fresh (fun x_ hx_ => A.fresh x_ (by exact hx_))) (fun x hx => by have := hp x hx; omega) rfl p_107)) ?_
    refine .cons (fun E A => OpStep.plain rfl (Step.litX (e := 24) (z := 1) (by_ := 24) (xs := [.tmp 48]) (pss := [[.row 4048 []]]) (es := [(.ints .u8 (af b (av b (rdI3 l b s).1 i).1 32).2)]) (ss := [4048]) (d := (.bss [(af b (av b (rdI3 l b s).1 i).1 32).2])) (t := 49) rfl rfl p_24 p_7 rfl rfl (.cons (by exact (congrArg PV.flat (A.g 48 (p := (.one (.row 4048 []))))).trans rfl) .nil) p_105 (le_ok rfl) (le_ok rfl) A.fn (.row (A.r 4048 (x := (5, _))) p_105 .nil) (A.fresh _ (List.mem_singleton.2 rfl)) p_105 (fun x_ hx_ => by have := hp x_ hx_; omega) rfl trivial rfl rfl)) ?_
    refine .cons (fun E A => OpStep.plain rfl (Step.appendX (e := 24) (z := 1) (by_ := 24) (d := (.bss (av b (rdI3 l b s).1 i).2)) (dy := (.bss [(af b (av b (rdI3 l b s).1 i).1 32).2])) (d' := (.bss ((av b (rdI3 l b s).1 i).2 ++ [(af b (av b (rdI3 l b s).1 i).1 32).2]))) (ss := [49]) 500050 (t := 50) rfl rfl p_24 p_7 (A.g 46) (A.r 100504 (x := (24, _))) rfl (lt_ok rfl) (A.g 49) (.move (A.r 49 (x := (24, _)))) p_105 rfl p_21 p_21 (fun x_ hx_ => by have := hp x_ hx_; omega) (A.fresh _ (List.mem_singleton.2 rfl)) p_105 (fun x_ hx_ => by have := hp x_ hx_; omega))) ?_
    refine .sk 2 ?_
    exact .nil _ _
   refine TL.wk [(1, (.one (.ptr 800 0))), (4, (.one (.ptr 4 0))), (5, (.one (.ptr 5 0))), (42, (pI (az (am b (ae (ae (aa b (aa b s).1).1 (decide (0 < (aa b (aa b s).1).2)) 5) (decide ((aa b (aa b s).1).2 ≤ l.f2)) 3) (aa b (aa b s).1).2 5).2 (aa b (aa b s).1).2))), (43, (pI (i : Int)))] [(4031, (5, (.ints .u8 (rdText b (am b (ae (ae (aa b (aa b s).1).1 (decide (0 < (aa b (aa b s).1).2)) 5) (decide ((aa b (aa b s).1).2 ≤ l.f2)) 3) (aa b (aa b s).1).2 5).1 l.f1).2))), (500050, (24, (.bss ((av b (rdI3 l b s).1 i).2 ++ [(af b (av b (rdI3 l b s).1 i).1 32).2]))))] [(800, (151, [cS b, cI (af b (av b (rdI3 l b s).1 i).1 32).1.f0, cI (af b (av b (rdI3 l b s).1 i).1 32).1.f1])), (2, (46, (c_2 l))), (4, (41, c_50)), (5, (41, (c_48 b l s)))] ?_
   refine TL.ren 500050 100504 rfl (fun x hx => by have := hp x hx; omega) ?_
   refine TL.nil (T.region ?_)
   refine TL.ad ((i : Int) + 1) ?_
   refine TL.rl [(43, (pI ((i : Int) + 1)))] [] ?_
   refine ⟨i + 1, by first | omega | (have : (i : Int) < az (rdI2 l b s).2 (aa b (aa b s).1).2 := p_5; omega), by first | omega | (dsimp only; omega) | (have : (i : Int) < az (rdI2 l b s).2 (aa b (aa b s).1).2 := p_5; omega) | (dsimp only; (have : (i : Int) < az (rdI2 l b s).2 (aa b (aa b s).1).2 := p_5; omega)), Env.le_mk ⟨rfl, rfl, rfl, rfl, ?_, trivial⟩ ⟨rfl, ?_, trivial⟩ ⟨?_, rfl, rfl, rfl, trivial⟩⟩ <;> exact p_12
  refine T.exit ?_
  refine T.sr [] [(4, (41, (c_47 b l s)))] ?_
  refine T.ret ?_
  refine ⟨_, _, rfl, rfl, (.cons rfl .nil), rfl, _, (.r rfl (.r ?_ (.r ?_ (.r ?_ (.r ?_ (.r ?_ (.o ?_ (.o ?_ .nil))))))))⟩ <;> exact p_38
 refine T.skip ?_
 refine T.sr [] [(4, (41, (c_39 b l s)))] ?_
 refine T.ret ?_
 refine ⟨_, _, rfl, rfl, (.cons rfl .nil), rfl, _, (.r rfl (.r ?_ (.r ?_ (.r ?_ (.r ?_ (.r ?_ (.o ?_ (.nn ?_ .nil))))))))⟩ <;> exact p_38
theorem ok_impl_Incl_ (l : SLimits) (b : List Int) (a : Int) (h0_ : U8s b) (h1_ : b.length ≤ 1048576) : RO Tryz.prog 84 [.agg l.cells, .one (.ints .u8 b), .one (.int .i64 a), .one (.fn 85)] [(true, [.rd (.int .i64 (getIncl l b a).1.f0), .rd (.int .i64 (getIncl l b a).1.f1), .rd (.int .i64 (getIncl l b a).1.f2), .own 5 (.ints .u8 (getIncl l b a).1.f3), .own 24 (.bss (getIncl l b a).1.f4)]), (false, [.rd (.int .i64 (getIncl l b a).2.1)]), (false, [.rd (.int .i64 (getIncl l b a).2.2)])] := by
 refine RO.intro Tryz.func84 rfl 41 rfl (le_ok rfl) fun w Z => ?_
 refine T.bnd 1 0 rfl rfl fun hb_1_0 => ?_
 simp only [D.size, List.length_map] at hb_1_0
 refine T.sr [(4, (.one (.ptr 4 0))), (8, (.one (.ptr 8 0))), (9, (pI 0)), (10, (pI 0))] [(4, (46, (c_2 l))), (8, (41, c_50))] ?_
 refine T.sr [(11, (.one (.ptr 11 0)))] [(11, (41, c_50))] ?_
 refine T.seq (T.sg ?_)
 refine TL.rx 1 [(14, (.agg (c_2 l)))] [] ?_
 refine TL.c (Step.cz (ok_impl_LimitsOk l)) ?_
 refine TL.rl [(16, (pB (!(limOk l))))] [] ?_
 refine T.cn rfl (fun h1 => ?_) (fun h1 => ?_)
 ·refine T.sr [(9, (pI 0)), (10, (pI 5))] [(8, (41, c_50))] ?_
  refine T.ret ?_
  exact p_151
 refine T.skip ?_
 refine T.sr [(12, (.one (.ptr 21 0)))] [(21, (151, [cS b, cI a, cI 0]))] ?_
 refine T.sg ?_
 refine TL.rx 3 [(22, (.one (.d (.fn 85)))), (23, (.agg (c_2 l))), (24, (.one (.ptr 21 0)))] [] ?_
 have nn2 := @rdIncl_sm l b (⟨a, 0⟩ : SRS) p_53
 refine TL.c (Step.x2 21 (ok_impl_readIncl b (⟨a, 0⟩ : SRS) l p_5 p_1)) ?_
 refine TL.rl [(13, (.one (.ptr 13 0)))] [(13, (41, (c_35 a b l)))] ?_
 refine T.seq ?_
 refine T.sr [(30, (pB (decide ((rdIncl l b (⟨a, 0⟩ : SRS)).1.f1 ≠ 0))))] [] ?_
 refine T.ci rfl (fun h3 => ?_) (fun h3 => ?_)
 ·refine T.seq ?_
  refine T.drawX [{ dst := some 31, pv := (.agg c_50) }, { dst := some 32, pv := (.one (.ptr 21 0)) }, { dst := some 33, pv := (.one (.ptr 21 0)) }, { dst := some 34, pv := (.one (.ptr 21 2)) }, { dst := some 35, pv := (pI (rdIncl l b (⟨a, 0⟩ : SRS)).1.f1) }, { box := some (8, (41, c_50)) }, { dst := some 9, pv := (pI 0) }, { dst := some 10, pv := (pI (rdIncl l b (⟨a, 0⟩ : SRS)).1.f1) }] p_7 p_7 ?_ ?_
  ·refine .sk 8 ?_
   exact .nil _ _
  refine TL.wk [(8, (.one (.ptr 8 0))), (9, (pI 0)), (10, (pI (rdIncl l b (⟨a, 0⟩ : SRS)).1.f1)), (12, (.one (.ptr 21 0))), (13, (.one (.ptr 13 0)))] [(7025, (5, (.ints .u8 (rdIncl l b (⟨a, 0⟩ : SRS)).2.f3))), (8025, (24, (.bss (rdIncl l b (⟨a, 0⟩ : SRS)).2.f4)))] [(4, (46, (c_2 l))), (8, (41, c_50)), (11, (41, c_50)), (21, (151, [cS b, cI (rdIncl l b (⟨a, 0⟩ : SRS)).1.f0, cI (rdIncl l b (⟨a, 0⟩ : SRS)).1.f1])), (13, (41, (c_35 a b l)))] ?_
  refine TL.nil (T.ret ?_)
  exact p_151
 refine T.skip (T.seq ?_)
 refine T.drawX [{ dst := some 36, pv := (.agg (c_35 a b l)) }, { dst := some 37, pv := (.one (.ptr 21 0)) }, { dst := some 38, pv := (.one (.ptr 21 0)) }, { dst := some 39, pv := (.one (.ptr 21 1)) }, { dst := some 40, pv := (pI (rdIncl l b (⟨a, 0⟩ : SRS)).1.f0) }, { box := some (8, (41, (c_35 a b l))) }, { dst := some 9, pv := (pI (rdIncl l b (⟨a, 0⟩ : SRS)).1.f0) }, { dst := some 10, pv := (pI 0) }] p_7 p_7 ?_ ?_
 ·refine .sk 8 ?_
  exact .nil _ _
 refine TL.wk [(8, (.one (.ptr 8 0))), (9, (pI (rdIncl l b (⟨a, 0⟩ : SRS)).1.f0)), (10, (pI 0))] [(7025, (5, (.ints .u8 (rdIncl l b (⟨a, 0⟩ : SRS)).2.f3))), (8025, (24, (.bss (rdIncl l b (⟨a, 0⟩ : SRS)).2.f4)))] [(4, (46, (c_2 l))), (8, (41, (c_35 a b l))), (11, (41, c_50)), (21, (151, [cS b, cI (rdIncl l b (⟨a, 0⟩ : SRS)).1.f0, cI (rdIncl l b (⟨a, 0⟩ : SRS)).1.f1])), (13, (41, (c_35 a b l)))] ?_
 refine TL.nil (T.ret ?_)
 refine ⟨_, (.cons rfl (.cons rfl (.cons rfl .nil))), rfl, _, (.r ?_ (.r ?_ (.r ?_ (.o ?_ (.o ?_ (.r ?_ (.r ?_ .nil)))))))⟩ <;> exact p_30
theorem ok_impl_GetIncl (l : SLimits) (b : List Int) (a : Int) (h0_ : U8s b) (h1_ : b.length ≤ 1048576) : RO Tryz.prog 34 [.agg l.cells, .one (.ints .u8 b), .one (.int .i64 a)] [(true, [.rd (.int .i64 (getIncl l b a).1.f0), .rd (.int .i64 (getIncl l b a).1.f1), .rd (.int .i64 (getIncl l b a).1.f2), .own 5 (.ints .u8 (getIncl l b a).1.f3), .own 24 (.bss (getIncl l b a).1.f4)]), (false, [.rd (.int .i64 (getIncl l b a).2.1)]), (false, [.rd (.int .i64 (getIncl l b a).2.2)])] := by
 refine RO.intro Tryz.func34 rfl 16 rfl (le_ok rfl) fun w Z => ?_
 refine T.bnd 1 0 rfl rfl fun hb_1_0 => ?_
 simp only [D.size, List.length_map] at hb_1_0
 refine T.sr [(3, (.one (.ptr 3 0))), (6, (.one (.ptr 6 0))), (7, (pI 0)), (8, (pI 0))] [(3, (46, (c_2 l))), (6, (41, c_50))] ?_
 refine T.sg ?_
 refine TL.rx 3 [(9, (.agg (c_2 l))), (10, (pS b)), (11, (pI a))] [] ?_
 have nn1 := @getIncl_sm l b a p_53
 refine TL.c (Step.cz (ok_impl_Incl_ l b a p_5 p_1)) ?_
 refine TL.rl [(7, (pI (getIncl l b a).2.1)), (8, (pI (getIncl l b a).2.2))] [(6, (41, [cI (getIncl l b a).1.f0, cI (getIncl l b a).1.f1, cI (getIncl l b a).1.f2, .row 4012 [], .row 5012 []]))] ?_
 refine T.ret ?_
 refine ⟨_, (.cons rfl (.cons rfl (.cons rfl .nil))), rfl, _, (.r rfl (.r rfl (.r rfl (.o ?_ (.o ?_ (.r rfl (.r rfl .nil)))))))⟩ <;> (rfl)
theorem ok_impl_Decode (l : SLimits) (b : List Int) (h0_ : U8s b) (h1_ : b.length ≤ 1048576) : RO Tryz.prog 8 [.agg l.cells, .one (.ints .u8 b)] [(true, [.rd (.int .i64 (ac l b).1.f0), .rd (.int .i64 (ac l b).1.f1.f0), .rd (.int .i64 (ac l b).1.f1.f1), .own 5 (.ints .u8 (ac l b).1.f1.f2), .rd (.int .i64 (ac l b).1.f1.f3), .own 5 (.ints .u8 (ac l b).1.f1.f4), .rd (.int .i64 (ac l b).1.f2.f0), .rd (.int .i64 (ac l b).1.f2.f1), .own 5 (.ints .u8 (ac l b).1.f2.f2), .own 5 (.ints .u8 (ac l b).1.f2.f3), .own 24 (.bss (ac l b).1.f2.f4), .rd (.int .i64 (ac l b).1.f3.f0), .rd (.int .i64 (ac l b).1.f3.f1), .rd (.int .i64 (ac l b).1.f3.f2), .own 5 (.ints .u8 (ac l b).1.f3.f3), .own 5 (.ints .u8 (ac l b).1.f3.f4), .rd (.int .i64 (ac l b).1.f3.f5.f0), .rd (.int .i64 (ac l b).1.f3.f5.f1), .own 5 (.ints .u8 (ac l b).1.f3.f5.f2), .own 5 (.ints .u8 (ac l b).1.f3.f5.f3), .own 24 (.bss (ac l b).1.f3.f5.f4), .rd (.int .i64 (ac l b).1.f4.f0.f0), .rd (.int .i64 (ac l b).1.f4.f0.f1), .rd (.int .i64 (ac l b).1.f4.f0.f2), .own 5 (.ints .u8 (ac l b).1.f4.f0.f3), .own 5 (.ints .u8 (ac l b).1.f4.f0.f4), .rd (.int .i64 (ac l b).1.f4.f0.f5.f0), .rd (.int .i64 (ac l b).1.f4.f0.f5.f1), .own 5 (.ints .u8 (ac l b).1.f4.f0.f5.f2), .own 5 (.ints .u8 (ac l b).1.f4.f0.f5.f3), .own 24 (.bss (ac l b).1.f4.f0.f5.f4), .own 24 (.bss (ac l b).1.f4.f1), .rd (.int .i64 (ac l b).1.f5.f0), .own 111 (.sl 3 ((ac l b).1.f5.f1.map SEntry.cells)), .own 31 (.sl 10 ((ac l b).1.f6.f0.map SHead.cells)), .rd (.int .i64 (ac l b).1.f6.f1.f0), .rd (.int .i64 (ac l b).1.f6.f1.f1), .own 5 (.ints .u8 (ac l b).1.f6.f1.f2), .own 5 (.ints .u8 (ac l b).1.f6.f1.f3), .own 24 (.bss (ac l b).1.f6.f1.f4), .rd (.int .i64 (ac l b).1.f7.f0), .rd (.int .i64 (ac l b).1.f7.f1), .rd (.int .i64 (ac l b).1.f7.f2), .own 5 (.ints .u8 (ac l b).1.f7.f3), .own 24 (.bss (ac l b).1.f7.f4)]), (false, [.rd (.int .i64 (ac l b).2)])] := by
 refine RO.intro Tryz.func8 rfl 115 rfl (le_ok rfl) fun w Z => ?_
 refine T.bnd 1 0 rfl rfl fun hb_1_0 => ?_
 simp only [D.size, List.length_map] at hb_1_0
 have hu0_ := getD_u8 h0_ 0
 refine T.sr [(2, (.one (.ptr 2 0))), (4, (.one (.ptr 4 0))), (5, (pI 0))] [(2, (46, (c_2 l))), (4, (43, c_0))] ?_
 refine T.seq (T.block (T.sg ?_))
 refine TL.rx 1 [(10, (.agg (c_2 l)))] [] ?_
 refine TL.c (Step.cz (ok_impl_LimitsOk l)) ?_
 refine TL.rl [(9, (pB (!(limOk l))))] [] ?_
 refine T.cn rfl (fun h1 => ?_) (fun h1 => ?_)
 ·refine T.sr [(5, (pI 5))] [(4, (43, c_0))] ?_
  refine T.ret ?_
  rw [decV (l := l) (b := b)]
  exact p_116
 refine T.sg ?_
 refine TL.rx 1 [(15, (pS b))] [] ?_
 refine TL.c (Step.ln 5 1 (.ints .u8 b)) ?_
 refine TL.rl [(14, (pB (decide ((b.length : Int) = 0))))] [] ?_
 refine T.ci rfl (fun h2 => ?_) (fun h2 => ?_)
 ·refine T.sr [(5, (pI 1))] [(4, (43, c_0))] ?_
  refine T.ret ?_
  rw [decV (l := l) (b := b)]
  exact p_116
 refine T.sg ?_
 refine TL.rx 1 [(20, (pS b))] [] ?_
 refine TL.c (Step.index (e := 5) (z := 1) (i := 0) rfl rfl (lt_ok rfl) p_7 rfl rfl rfl (lt_ok rfl) rfl p_23 p_47) ?_
 refine TL.c (Step.load (e := (.int .u8 (b.getD 0 0))) rfl rfl (lt_ok rfl) p_7 rfl rfl) ?_
 refine TL.c (Step.conv (c := (b.getD 0 0)) rfl rfl (lt_ok rfl) p_7 p_7 rfl (wrap_ok p_23 p_23)) ?_
 refine TL.c (Step.cz (ok_impl_KindName (b.getD 0 0) (by first | assumption | exact ⟨by omega, by omega⟩))) ?_
 refine TL.rl [(19, (pB ((nameW (b.getD 0 0) kindNs).toList == ByteArray.empty.toList)))] [] ?_
 refine T.cond (b := (nameW (b.getD 0 0) kindNs).toList == ByteArray.empty.toList) rfl (fun h3 => ?_) (fun h3 => ?_)
 ·rw [kind_eq p_4 p_4, Bool.not_eq_true', decide_eq_false_iff_not] at h3
  refine T.sr [(5, (pI 8))] [(4, (43, c_0))] ?_
  refine T.ret ?_
  rw [decV (l := l) (b := b)]
  exact p_116
 rw [kind_eq p_4 p_4, Bool.not_eq_false', decide_eq_true_eq] at h3
 refine T.skip (T.sg ?_)
 refine TL.rx 1 [(27, (pS b))] [] ?_
 refine TL.c (Step.index (e := 5) (z := 1) (i := 0) rfl rfl (lt_ok rfl) p_7 rfl rfl rfl (lt_ok rfl) rfl p_23 p_47) ?_
 refine TL.c (Step.load (e := (.int .u8 (b.getD 0 0))) rfl rfl (lt_ok rfl) p_7 rfl rfl) ?_
 refine TL.c (Step.conv (c := (b.getD 0 0)) rfl rfl (lt_ok rfl) p_7 p_7 rfl (wrap_ok p_23 p_23)) ?_
 refine TL.rl [(6, (.one (.ptr 6 0))), (7, (pI 0)), (8, (pI 0))] [(6, (43, (c_33 b)))] ?_
 refine T.seq ?_
 refine T.sr [(33, (pI (b.getD 0 0)))] [] ?_
 refine T.block ?_
 refine T.sr [(42, (pB (decide ((b.getD 0 0) = 1))))] [] ?_
 refine T.ci rfl (fun h4 => ?_) (fun h4 => ?_)
 ·refine T.region ?_
  refine TL.rx 2 [(45, (.agg (c_2 l))), (46, (pS b))] [] ?_
  have nn5 := @getVote_sm l b 1 p_53
  refine TL.c (Step.cz (ok_impl_GetVote l b 1 p_5 p_1)) ?_
  refine TL.rl [(7, (pI (aw l b 1).2.1)), (8, (pI (aw l b 1).2.2))] [(6, (43, (c_19 b l)))] ?_
  refine T.seq (T.sg ?_)
  refine TL.rx 3 [(104, (pB (decide ((aw l b 1).2.2 = 0))))] [] ?_
  rcases Bool.eq_false_or_eq_true (decide ((aw l b 1).2.2 = 0)) with hb6 | hb6
  ·refine TL.known 104 hb6 rfl ?_
   have hb6' := hb6
   replace hb6' := of_decide_eq_true hb6'
   refine TL.rx 2 [(105, (pI (aw l b 1).2.1)), (106, (pS b))] [] ?_
   refine TL.gy 104 (Step.ln 5 1 (.ints .u8 b)) ?_
   refine TL.rl [(109, (pB (decide ((aw l b 1).2.1 ≠ (b.length : Int)))))] [] ?_
   refine T.ci rfl (fun h7 => ?_) (fun h7 => ?_)
   ·refine T.rr [(8, (pI 9))] [] ?_
    refine T.seq ?_
    refine T.sr [(111, (pB (decide (9 ≠ 0))))] [] ?_
    refine T.ci rfl (fun h8 => ?_) (fun h8 => ?_)
    ·refine T.sr [(5, (pI 9))] [(4, (43, c_0))] ?_
     refine T.ret ?_
     rw [decV (l := l) (b := b)]
     exact p_116
    refine T.skip ?_
    refine T.sr [(5, (pI 0))] [(4, (43, (c_19 b l)))] ?_
    refine T.ret ?_
    rw [decV (l := l) (b := b)]
    exact p_119
   refine T.skip (T.seq ?_)
   refine T.sr [(111, (pB (decide ((aw l b 1).2.2 ≠ 0))))] [] ?_
   refine T.ci rfl (fun h9 => ?_) (fun h9 => ?_)
   ·refine T.sr [(5, (pI (aw l b 1).2.2))] [(4, (43, c_0))] ?_
    refine T.ret ?_
    rw [decV (l := l) (b := b)]
    exact p_116
   refine T.skip ?_
   refine T.sr [(5, (pI 0))] [(4, (43, (c_19 b l)))] ?_
   refine T.ret ?_
   rw [decV (l := l) (b := b)]
   exact p_119
  refine TL.known 104 hb6 rfl ?_
  have hb6' := hb6
  replace hb6' := of_decide_eq_false hb6'
  refine TL.rl [(109, (pB false))] [] ?_
  refine T.cf (T.skip (T.seq ?_))
  refine T.sr [(111, (pB (decide ((aw l b 1).2.2 ≠ 0))))] [] ?_
  refine T.ci rfl (fun h10 => ?_) (fun h10 => ?_)
  ·refine T.sr [(5, (pI (aw l b 1).2.2))] [(4, (43, c_0))] ?_
   refine T.ret ?_
   rw [decV (l := l) (b := b)]
   exact p_116
  refine T.skip ?_
  refine T.sr [(5, (pI 0))] [(4, (43, (c_19 b l)))] ?_
  refine T.ret ?_
  rw [decV (l := l) (b := b)]
  exact p_119
 refine T.sr [(52, (pB (decide ((b.getD 0 0) = 2))))] [] ?_
 refine T.ci rfl (fun h11 => ?_) (fun h11 => ?_)
 ·refine T.region ?_
  refine TL.rx 2 [(55, (.agg (c_2 l))), (56, (pS b))] [] ?_
  have nn12 := @getQc_sm l b 1 p_53
  refine TL.c (Step.cz (ok_impl_GetQc l b 1 p_5 p_1)) ?_
  refine TL.rl [(7, (pI (getQc l b 1).2.1)), (8, (pI (getQc l b 1).2.2))] [(6, (43, (c_23 b l)))] ?_
  refine T.seq (T.sg ?_)
  refine TL.rx 3 [(104, (pB (decide ((getQc l b 1).2.2 = 0))))] [] ?_
  rcases Bool.eq_false_or_eq_true (decide ((getQc l b 1).2.2 = 0)) with hb13 | hb13
  ·refine TL.known 104 hb13 rfl ?_
   have hb13' := hb13
   replace hb13' := of_decide_eq_true hb13'
   refine TL.rx 2 [(105, (pI (getQc l b 1).2.1)), (106, (pS b))] [] ?_
   refine TL.gy 104 (Step.ln 5 1 (.ints .u8 b)) ?_
   refine TL.rl [(109, (pB (decide ((getQc l b 1).2.1 ≠ (b.length : Int)))))] [] ?_
   refine T.ci rfl (fun h14 => ?_) (fun h14 => ?_)
   ·refine T.rr [(8, (pI 9))] [] ?_
    refine T.seq ?_
    refine T.sr [(111, (pB (decide (9 ≠ 0))))] [] ?_
    refine T.ci rfl (fun h15 => ?_) (fun h15 => ?_)
    ·refine T.sr [(5, (pI 9))] [(4, (43, c_0))] ?_
     refine T.ret ?_
     rw [decV (l := l) (b := b)]
     exact p_116
    refine T.skip ?_
    refine T.sr [(5, (pI 0))] [(4, (43, (c_23 b l)))] ?_
    refine T.ret ?_
    rw [decV (l := l) (b := b)]
    exact p_121
   refine T.skip (T.seq ?_)
   refine T.sr [(111, (pB (decide ((getQc l b 1).2.2 ≠ 0))))] [] ?_
   refine T.ci rfl (fun h16 => ?_) (fun h16 => ?_)
   ·refine T.sr [(5, (pI (getQc l b 1).2.2))] [(4, (43, c_0))] ?_
    refine T.ret ?_
    rw [decV (l := l) (b := b)]
    exact p_116
   refine T.skip ?_
   refine T.sr [(5, (pI 0))] [(4, (43, (c_23 b l)))] ?_
   refine T.ret ?_
   rw [decV (l := l) (b := b)]
   exact p_121
  refine TL.known 104 hb13 rfl ?_
  have hb13' := hb13
  replace hb13' := of_decide_eq_false hb13'
  refine TL.rl [(109, (pB false))] [] ?_
  refine T.cf (T.skip (T.seq ?_))
  refine T.sr [(111, (pB (decide ((getQc l b 1).2.2 ≠ 0))))] [] ?_
  refine T.ci rfl (fun h17 => ?_) (fun h17 => ?_)
  ·refine T.sr [(5, (pI (getQc l b 1).2.2))] [(4, (43, c_0))] ?_
   refine T.ret ?_
   rw [decV (l := l) (b := b)]
   exact p_116
  refine T.skip ?_
  refine T.sr [(5, (pI 0))] [(4, (43, (c_23 b l)))] ?_
  refine T.ret ?_
  rw [decV (l := l) (b := b)]
  exact p_121
 refine T.sr [(62, (pB (decide ((b.getD 0 0) = 3))))] [] ?_
 refine T.ci rfl (fun h18 => ?_) (fun h18 => ?_)
 ·refine T.region ?_
  refine TL.rx 2 [(65, (.agg (c_2 l))), (66, (pS b))] [] ?_
  have nn19 := @getHead_sm l b 1 p_53
  refine TL.c (Step.cz (ok_impl_GetHead l b 1 p_5 p_1)) ?_
  refine TL.rl [(7, (pI (bc l b 1).2.1)), (8, (pI (bc l b 1).2.2))] [(6, (43, (c_14 b l)))] ?_
  refine T.seq (T.sg ?_)
  refine TL.rx 3 [(104, (pB (decide ((bc l b 1).2.2 = 0))))] [] ?_
  rcases Bool.eq_false_or_eq_true (decide ((bc l b 1).2.2 = 0)) with hb20 | hb20
  ·refine TL.known 104 hb20 rfl ?_
   have hb20' := hb20
   replace hb20' := of_decide_eq_true hb20'
   refine TL.rx 2 [(105, (pI (bc l b 1).2.1)), (106, (pS b))] [] ?_
   refine TL.gy 104 (Step.ln 5 1 (.ints .u8 b)) ?_
   refine TL.rl [(109, (pB (decide ((bc l b 1).2.1 ≠ (b.length : Int)))))] [] ?_
   refine T.ci rfl (fun h21 => ?_) (fun h21 => ?_)
   ·refine T.rr [(8, (pI 9))] [] ?_
    refine T.seq ?_
    refine T.sr [(111, (pB (decide (9 ≠ 0))))] [] ?_
    refine T.ci rfl (fun h22 => ?_) (fun h22 => ?_)
    ·refine T.sr [(5, (pI 9))] [(4, (43, c_0))] ?_
     refine T.ret ?_
     rw [decV (l := l) (b := b)]
     exact p_116
    refine T.skip ?_
    refine T.sr [(5, (pI 0))] [(4, (43, (c_14 b l)))] ?_
    refine T.ret ?_
    rw [decV (l := l) (b := b)]
    exact p_122
   refine T.skip (T.seq ?_)
   refine T.sr [(111, (pB (decide ((bc l b 1).2.2 ≠ 0))))] [] ?_
   refine T.ci rfl (fun h23 => ?_) (fun h23 => ?_)
   ·refine T.sr [(5, (pI (bc l b 1).2.2))] [(4, (43, c_0))] ?_
    refine T.ret ?_
    rw [decV (l := l) (b := b)]
    exact p_116
   refine T.skip ?_
   refine T.sr [(5, (pI 0))] [(4, (43, (c_14 b l)))] ?_
   refine T.ret ?_
   rw [decV (l := l) (b := b)]
   exact p_122
  refine TL.known 104 hb20 rfl ?_
  have hb20' := hb20
  replace hb20' := of_decide_eq_false hb20'
  refine TL.rl [(109, (pB false))] [] ?_
  refine T.cf (T.skip (T.seq ?_))
  refine T.sr [(111, (pB (decide ((bc l b 1).2.2 ≠ 0))))] [] ?_
  refine T.ci rfl (fun h24 => ?_) (fun h24 => ?_)
  ·refine T.sr [(5, (pI (bc l b 1).2.2))] [(4, (43, c_0))] ?_
   refine T.ret ?_
   rw [decV (l := l) (b := b)]
   exact p_116
  refine T.skip ?_
  refine T.sr [(5, (pI 0))] [(4, (43, (c_14 b l)))] ?_
  refine T.ret ?_
  rw [decV (l := l) (b := b)]
  exact p_122
 refine T.sr [(72, (pB (decide ((b.getD 0 0) = 4))))] [] ?_
 refine T.ci rfl (fun h25 => ?_) (fun h25 => ?_)
 ·refine T.region ?_
  refine TL.rx 2 [(75, (.agg (c_2 l))), (76, (pS b))] [] ?_
  have nn26 := @getBlock_sm l b 1 p_53
  refine TL.c (Step.cz (ok_impl_GetBlock l b 1 p_5 p_1)) ?_
  refine TL.rl [(7, (pI (ax l b 1).2.1)), (8, (pI (ax l b 1).2.2))] [(6, (43, (c_8 b l)))] ?_
  refine T.seq (T.sg ?_)
  refine TL.rx 3 [(104, (pB (decide ((ax l b 1).2.2 = 0))))] [] ?_
  rcases Bool.eq_false_or_eq_true (decide ((ax l b 1).2.2 = 0)) with hb27 | hb27
  ·refine TL.known 104 hb27 rfl ?_
   have hb27' := hb27
   replace hb27' := of_decide_eq_true hb27'
   refine TL.rx 2 [(105, (pI (ax l b 1).2.1)), (106, (pS b))] [] ?_
   refine TL.gy 104 (Step.ln 5 1 (.ints .u8 b)) ?_
   refine TL.rl [(109, (pB (decide ((ax l b 1).2.1 ≠ (b.length : Int)))))] [] ?_
   refine T.ci rfl (fun h28 => ?_) (fun h28 => ?_)
   ·refine T.rr [(8, (pI 9))] [] ?_
    refine T.seq ?_
    refine T.sr [(111, (pB (decide (9 ≠ 0))))] [] ?_
    refine T.ci rfl (fun h29 => ?_) (fun h29 => ?_)
    ·refine T.sr [(5, (pI 9))] [(4, (43, c_0))] ?_
     refine T.ret ?_
     rw [decV (l := l) (b := b)]
     exact p_116
    refine T.skip ?_
    refine T.sr [(5, (pI 0))] [(4, (43, (c_8 b l)))] ?_
    refine T.wk [(4, (.one (.ptr 4 0))), (5, (pI 0))] [(4077, (5, (.ints .u8 (ax l b 1).1.f0.f3))), (5077, (5, (.ints .u8 (ax l b 1).1.f0.f4))), (8077, (5, (.ints .u8 (ax l b 1).1.f0.f5.f2))), (9077, (5, (.ints .u8 (ax l b 1).1.f0.f5.f3))), (10077, (24, (.bss (ax l b 1).1.f0.f5.f4))), (11077, (24, (.bss (ax l b 1).1.f1)))] [(4, (43, (c_8 b l)))] ?_
    refine T.ret ?_
    rw [decV (l := l) (b := b)]
    exact p_123
   refine T.skip (T.seq ?_)
   refine T.sr [(111, (pB (decide ((ax l b 1).2.2 ≠ 0))))] [] ?_
   refine T.ci rfl (fun h30 => ?_) (fun h30 => ?_)
   ·refine T.sr [(5, (pI (ax l b 1).2.2))] [(4, (43, c_0))] ?_
    refine T.ret ?_
    rw [decV (l := l) (b := b)]
    exact p_116
   refine T.skip ?_
   refine T.sr [(5, (pI 0))] [(4, (43, (c_8 b l)))] ?_
   refine T.wk [(4, (.one (.ptr 4 0))), (5, (pI 0))] [(4077, (5, (.ints .u8 (ax l b 1).1.f0.f3))), (5077, (5, (.ints .u8 (ax l b 1).1.f0.f4))), (8077, (5, (.ints .u8 (ax l b 1).1.f0.f5.f2))), (9077, (5, (.ints .u8 (ax l b 1).1.f0.f5.f3))), (10077, (24, (.bss (ax l b 1).1.f0.f5.f4))), (11077, (24, (.bss (ax l b 1).1.f1)))] [(4, (43, (c_8 b l)))] ?_
   refine T.ret ?_
   rw [decV (l := l) (b := b)]
   exact p_123
  refine TL.known 104 hb27 rfl ?_
  have hb27' := hb27
  replace hb27' := of_decide_eq_false hb27'
  refine TL.rl [(109, (pB false))] [] ?_
  refine T.cf (T.skip (T.seq ?_))
  refine T.sr [(111, (pB (decide ((ax l b 1).2.2 ≠ 0))))] [] ?_
  refine T.ci rfl (fun h31 => ?_) (fun h31 => ?_)
  ·refine T.sr [(5, (pI (ax l b 1).2.2))] [(4, (43, c_0))] ?_
   refine T.ret ?_
   rw [decV (l := l) (b := b)]
   exact p_116
  refine T.skip ?_
  refine T.sr [(5, (pI 0))] [(4, (43, (c_8 b l)))] ?_
  refine T.ret ?_
  rw [decV (l := l) (b := b)]
  exact p_123
 refine T.sr [(82, (pB (decide ((b.getD 0 0) = 5))))] [] ?_
 refine T.ci rfl (fun h32 => ?_) (fun h32 => ?_)
 ·refine T.region ?_
  refine TL.rx 2 [(85, (.agg (c_2 l))), (86, (pS b))] [] ?_
  have nn33 := @getTc_sm l b 1 p_53
  refine TL.c (Step.cz (ok_impl_GetTc l b 1 p_5 p_1)) ?_
  refine TL.rl [(7, (pI (getTc l b 1).2.1)), (8, (pI (getTc l b 1).2.2))] [(6, (43, (c_24 b l)))] ?_
  refine T.seq (T.sg ?_)
  refine TL.rx 3 [(104, (pB (decide ((getTc l b 1).2.2 = 0))))] [] ?_
  rcases Bool.eq_false_or_eq_true (decide ((getTc l b 1).2.2 = 0)) with hb34 | hb34
  ·refine TL.known 104 hb34 rfl ?_
   have hb34' := hb34
   replace hb34' := of_decide_eq_true hb34'
   refine TL.rx 2 [(105, (pI (getTc l b 1).2.1)), (106, (pS b))] [] ?_
   refine TL.gy 104 (Step.ln 5 1 (.ints .u8 b)) ?_
   refine TL.rl [(109, (pB (decide ((getTc l b 1).2.1 ≠ (b.length : Int)))))] [] ?_
   refine T.ci rfl (fun h35 => ?_) (fun h35 => ?_)
   ·refine T.rr [(8, (pI 9))] [] ?_
    refine T.seq ?_
    refine T.sr [(111, (pB (decide (9 ≠ 0))))] [] ?_
    refine T.ci rfl (fun h36 => ?_) (fun h36 => ?_)
    ·refine T.sr [(5, (pI 9))] [(4, (43, c_0))] ?_
     refine T.ret ?_
     rw [decV (l := l) (b := b)]
     exact p_116
    refine T.skip ?_
    refine T.sr [(5, (pI 0))] [(4, (43, (c_24 b l)))] ?_
    refine T.ret ?_
    rw [decV (l := l) (b := b)]
    exact p_124
   refine T.skip (T.seq ?_)
   refine T.sr [(111, (pB (decide ((getTc l b 1).2.2 ≠ 0))))] [] ?_
   refine T.ci rfl (fun h37 => ?_) (fun h37 => ?_)
   ·refine T.sr [(5, (pI (getTc l b 1).2.2))] [(4, (43, c_0))] ?_
    refine T.ret ?_
    rw [decV (l := l) (b := b)]
    exact p_116
   refine T.skip ?_
   refine T.sr [(5, (pI 0))] [(4, (43, (c_24 b l)))] ?_
   refine T.ret ?_
   rw [decV (l := l) (b := b)]
   exact p_124
  refine TL.known 104 hb34 rfl ?_
  have hb34' := hb34
  replace hb34' := of_decide_eq_false hb34'
  refine TL.rl [(109, (pB false))] [] ?_
  refine T.cf (T.skip (T.seq ?_))
  refine T.sr [(111, (pB (decide ((getTc l b 1).2.2 ≠ 0))))] [] ?_
  refine T.ci rfl (fun h38 => ?_) (fun h38 => ?_)
  ·refine T.sr [(5, (pI (getTc l b 1).2.2))] [(4, (43, c_0))] ?_
   refine T.ret ?_
   rw [decV (l := l) (b := b)]
   exact p_116
  refine T.skip ?_
  refine T.sr [(5, (pI 0))] [(4, (43, (c_24 b l)))] ?_
  refine T.ret ?_
  rw [decV (l := l) (b := b)]
  exact p_124
 refine T.sr [(92, (pB (decide ((b.getD 0 0) = 6))))] [] ?_
 refine T.ci rfl (fun h39 => ?_) (fun h39 => ?_)
 ·refine T.region ?_
  refine TL.rx 2 [(95, (.agg (c_2 l))), (96, (pS b))] [] ?_
  have nn40 := @getProof_sm l b 1 p_53
  refine TL.c (Step.cz (ok_impl_GetProof l b 1 p_5 p_1)) ?_
  refine TL.rl [(7, (pI (getProof l b 1).2.1)), (8, (pI (getProof l b 1).2.2))] [(6, (43, (c_18 b l)))] ?_
  refine T.seq (T.sg ?_)
  refine TL.rx 3 [(104, (pB (decide ((getProof l b 1).2.2 = 0))))] [] ?_
  rcases Bool.eq_false_or_eq_true (decide ((getProof l b 1).2.2 = 0)) with hb41 | hb41
  ·refine TL.known 104 hb41 rfl ?_
   have hb41' := hb41
   replace hb41' := of_decide_eq_true hb41'
   refine TL.rx 2 [(105, (pI (getProof l b 1).2.1)), (106, (pS b))] [] ?_
   refine TL.gy 104 (Step.ln 5 1 (.ints .u8 b)) ?_
   refine TL.rl [(109, (pB (decide ((getProof l b 1).2.1 ≠ (b.length : Int)))))] [] ?_
   refine T.ci rfl (fun h42 => ?_) (fun h42 => ?_)
   ·refine T.rr [(8, (pI 9))] [] ?_
    refine T.seq ?_
    refine T.sr [(111, (pB (decide (9 ≠ 0))))] [] ?_
    refine T.ci rfl (fun h43 => ?_) (fun h43 => ?_)
    ·refine T.sr [(5, (pI 9))] [(4, (43, c_0))] ?_
     refine T.ret ?_
     rw [decV (l := l) (b := b)]
     exact p_116
    refine T.skip ?_
    refine T.sr [(5, (pI 0))] [(4, (43, (c_18 b l)))] ?_
    refine T.ret ?_
    rw [decV (l := l) (b := b)]
    exact p_125
   refine T.skip (T.seq ?_)
   refine T.sr [(111, (pB (decide ((getProof l b 1).2.2 ≠ 0))))] [] ?_
   refine T.ci rfl (fun h44 => ?_) (fun h44 => ?_)
   ·refine T.sr [(5, (pI (getProof l b 1).2.2))] [(4, (43, c_0))] ?_
    refine T.ret ?_
    rw [decV (l := l) (b := b)]
    exact p_116
   refine T.skip ?_
   refine T.sr [(5, (pI 0))] [(4, (43, (c_18 b l)))] ?_
   refine T.ret ?_
   rw [decV (l := l) (b := b)]
   exact p_125
  refine TL.known 104 hb41 rfl ?_
  have hb41' := hb41
  replace hb41' := of_decide_eq_false hb41'
  refine TL.rl [(109, (pB false))] [] ?_
  refine T.cf (T.skip (T.seq ?_))
  refine T.sr [(111, (pB (decide ((getProof l b 1).2.2 ≠ 0))))] [] ?_
  refine T.ci rfl (fun h45 => ?_) (fun h45 => ?_)
  ·refine T.sr [(5, (pI (getProof l b 1).2.2))] [(4, (43, c_0))] ?_
   refine T.ret ?_
   rw [decV (l := l) (b := b)]
   exact p_116
  refine T.skip ?_
  refine T.sr [(5, (pI 0))] [(4, (43, (c_18 b l)))] ?_
  refine T.ret ?_
  rw [decV (l := l) (b := b)]
  exact p_125
 refine T.region ?_
 refine TL.rx 2 [(35, (.agg (c_2 l))), (36, (pS b))] [] ?_
 have nn46 := @getIncl_sm l b 1 p_53
 refine TL.c (Step.cz (ok_impl_GetIncl l b 1 p_5 p_1)) ?_
 refine TL.rl [(7, (pI (getIncl l b 1).2.1)), (8, (pI (getIncl l b 1).2.2))] [(6, (43, (c_20 b l)))] ?_
 refine T.seq (T.sg ?_)
 refine TL.rx 3 [(104, (pB (decide ((getIncl l b 1).2.2 = 0))))] [] ?_
 rcases Bool.eq_false_or_eq_true (decide ((getIncl l b 1).2.2 = 0)) with hb47 | hb47
 ·refine TL.known 104 hb47 rfl ?_
  have hb47' := hb47
  replace hb47' := of_decide_eq_true hb47'
  refine TL.rx 2 [(105, (pI (getIncl l b 1).2.1)), (106, (pS b))] [] ?_
  refine TL.gy 104 (Step.ln 5 1 (.ints .u8 b)) ?_
  refine TL.rl [(109, (pB (decide ((getIncl l b 1).2.1 ≠ (b.length : Int)))))] [] ?_
  refine T.ci rfl (fun h48 => ?_) (fun h48 => ?_)
  ·refine T.rr [(8, (pI 9))] [] ?_
   refine T.seq ?_
   refine T.sr [(111, (pB (decide (9 ≠ 0))))] [] ?_
   refine T.ci rfl (fun h49 => ?_) (fun h49 => ?_)
   ·refine T.sr [(5, (pI 9))] [(4, (43, c_0))] ?_
    refine T.ret ?_
    rw [decV (l := l) (b := b)]
    exact p_116
   refine T.skip ?_
   refine T.sr [(5, (pI 0))] [(4, (43, (c_20 b l)))] ?_
   refine T.ret ?_
   rw [decV (l := l) (b := b)]
   exact p_120
  refine T.skip (T.seq ?_)
  refine T.sr [(111, (pB (decide ((getIncl l b 1).2.2 ≠ 0))))] [] ?_
  refine T.ci rfl (fun h50 => ?_) (fun h50 => ?_)
  ·refine T.sr [(5, (pI (getIncl l b 1).2.2))] [(4, (43, c_0))] ?_
   refine T.ret ?_
   rw [decV (l := l) (b := b)]
   exact p_116
  refine T.skip ?_
  refine T.sr [(5, (pI 0))] [(4, (43, (c_20 b l)))] ?_
  refine T.ret ?_
  rw [decV (l := l) (b := b)]
  exact p_120
 refine TL.known 104 hb47 rfl ?_
 have hb47' := hb47
 replace hb47' := of_decide_eq_false hb47'
 refine TL.rl [(109, (pB false))] [] ?_
 refine T.cf (T.skip (T.seq ?_))
 refine T.sr [(111, (pB (decide ((getIncl l b 1).2.2 ≠ 0))))] [] ?_
 refine T.ci rfl (fun h51 => ?_) (fun h51 => ?_)
 ·refine T.sr [(5, (pI (getIncl l b 1).2.2))] [(4, (43, c_0))] ?_
  refine T.ret ?_
  rw [decV (l := l) (b := b)]
  exact p_116
 refine T.skip ?_
 refine T.sr [(5, (pI 0))] [(4, (43, (c_20 b l)))] ?_
 refine T.ret ?_
 rw [decV (l := l) (b := b)]
 exact p_120
theorem ok_impl_GetFix (b : List Int) (a : Int) (q : Int) (h0_ : U8s b) (h1_ : b.length ≤ 1099511627776) : RO Tryz.prog 125 [.one (.ints .u8 b), .one (.int .i64 a), .one (.int .i64 q)] [(false, [.rd (.int .i64 (ao b a q).1)]), (false, [.rd (.int .i64 (ao b a q).2.1)]), (false, [.rd (.int .i64 (ao b a q).2.2)])] := by
 refine RO.intro Tryz.func125 rfl 44 rfl (le_ok rfl) fun w Z => ?_
 refine T.bnd 0 0 rfl rfl fun hb_0_0 => ?_
 simp only [D.size, List.length_map] at hb_0_0
 refine T.sr [(6, (pI 0)), (7, (pI 0)), (8, (pI 0))] [] ?_
 refine T.seq (T.sg ?_)
 refine TL.rx 1 [(15, (pI q))] [] ?_
 refine TL.c (Step.cz (ok_impl_within q 1 7)) ?_
 refine TL.rl [(17, (pB (!(decide (1 ≤ q ∧ q ≤ 7)))))] [] ?_
 refine T.cni rfl (fun h1 => ?_) (fun h1 => ?_)
 ·refine T.sr [(6, (pI 0)), (7, (pI 0)), (8, (pI 5))] [] ?_
  refine T.ret ?_
  exact p_169
 refine T.skip (T.sg ?_)
 refine TL.rx 3 [(19, (pS b)), (20, (pI a)), (21, (pI q))] [] ?_
 have nn2 := getRaw_bd b a q
 refine TL.c (Step.cz (ok_impl_GetRaw b a q p_1)) ?_
 refine TL.rl [(9, (.one (.row 1022 []))), (10, (pI (au b a q).2.1)), (11, (pI (au b a q).2.2))] [] ?_
 refine T.sr [(12, (pI 0))] [] ?_
 refine T.seq (T.sg ?_)
 refine TL.rx 1 [(26, (.one (.row 1022 [])))] [] ?_
 refine TL.c (Step.ln 5 1 (.ints .u8 (au b a q).1)) ?_
 refine TL.rl [(28, (pI 0))] [] ?_
 refine T.block ?_
 refine T.loop (ι := Nat) (fun xx_ => { tm := [(6, (pI 0)), (7, (pI 0)), (8, (pI 0)), (10, (pI (au b a q).2.1)), (11, (pI (au b a q).2.2)), (26, (.one (.row 1022 []))), (27, (pI ((au b a q).1.length : Int))), (28, (pI (xx_ : Int))), (12, (pI (leNum ((au b a q).1.take xx_))))], rows := [(1022, (5, (.ints .u8 (au b a q).1)))], boxes := [] }) (fun xx_ => xx_ ≤ (au b a q).1.length) (fun xx_ => (au b a q).1.length - xx_) 0 ?_ ?_ ?_
 · refine Env.le_mk ⟨rfl, rfl, rfl, rfl, rfl, rfl, rfl, ?_, ?_, trivial⟩ ⟨rfl, trivial⟩ trivial <;> (first | rfl | (refine congrArg (fun n => PV.one (.d (.int .i64 n))) ?_; first | rfl | exact leTake_next p_4 | omega | (simp; done)))
 · exact Nat.zero_le _
 intro i hx
 try dsimp only at hx ⊢
 have hu_ := getD_u8 (getRaw_u8 h0_ a q) i
 refine T.sr [(29, (pB (decide ((i : Int) < ((au b a q).1.length : Int)))))] [] ?_
 refine T.seq ?_
 refine T.ci rfl (fun h3 => ?_) (fun h3 => ?_)
 ·have hb_ := leTake_bd (getRaw_u8 h0_ a q) hx p_4
  refine T.skip (T.seq (T.block (T.sg ?_)))
  refine TL.rx 1 [(30, (pI (i : Int)))] [] ?_
  refine TL.c (Step.index_row (e := 5) (z := 1) (i := (i : Int)) rfl rfl (lt_ok rfl) p_7 rfl rfl rfl rfl (lt_ok rfl) rfl p_23 p_99) ?_
  refine TL.c (Step.load_row (c := .d (.int .u8 ((au b a q).1.getD i 0))) rfl rfl (lt_ok rfl) p_7 rfl rfl rfl) ?_
  refine TL.rl [(13, (pI (i : Int))), (14, (.one (.d (.int .u8 ((au b a q).1.getD i 0)))))] [] ?_
  refine T.region ?_
  refine TL.rx 2 [(33, (pI (leNum ((au b a q).1.take i)))), (34, (.one (.d (.int .u8 ((au b a q).1.getD i 0)))))] [] ?_
  refine TL.c (Step.conv (c := ((au b a q).1.getD i 0)) rfl rfl (lt_ok rfl) p_7 p_7 rfl (wrap_ok p_23 p_23)) ?_
  refine TL.rx 1 [(36, (pI (i : Int)))] [] ?_
  refine TL.ml (8 * (i : Int)) ?_
  refine TL.c (Step.bin (r := .int .i64 ((au b a q).1.getD i 0 * 256 ^ i)) rfl rfl (lt_ok rfl) rfl rfl (Bin.shl (k := .i64) (k' := .i64) (a := ((au b a q).1.getD i 0)) (b := (8 * (i : Int))) p_23 (shl_fix p_4 hu_.1 hu_.2))) ?_
  refine TL.c (Step.bin (r := .int .i64 (leNum ((au b a q).1.take i) + (au b a q).1.getD i 0 * 256 ^ i)) rfl rfl (lt_ok rfl) rfl rfl (Bin.or (k := .i64) (a := (leNum ((au b a q).1.take i))) (b := ((au b a q).1.getD i 0 * 256 ^ i)) (or_fix p_4 hb_.1 hb_.2 hu_.1 hu_.2))) ?_
  refine TL.rl [(12, (pI (leNum ((au b a q).1.take i) + (au b a q).1.getD i 0 * 256 ^ i)))] [] ?_
  refine T.region ?_
  refine TL.ad ((i : Int) + 1) ?_
  refine TL.rl [(28, (pI ((i : Int) + 1)))] [] ?_
  refine ⟨i + 1, by omega, by ((try dsimp only); omega), Env.le_mk ⟨rfl, rfl, rfl, rfl, rfl, rfl, rfl, ?_, ?_, trivial⟩ ⟨rfl, trivial⟩ trivial⟩ <;> (first | rfl | (refine congrArg (fun n => PV.one (.d (.int .i64 n))) ?_; first | rfl | exact leTake_next p_4 | omega | (simp; done)))
 refine T.exit ?_
 refine T.sr [(6, (pI (leNum ((au b a q).1.take i)))), (7, (pI (au b a q).2.1)), (8, (pI (au b a q).2.2))] [] ?_
 refine T.ret ?_
 exact p_169
theorem ok_impl_steps (c : Int) (h0_ : 0 ≤ c ∧ c ≤ 4294967295) : RO Tryz.prog 157 [.one (.int .i64 c)] [(false, [.rd (.int .i64 (crcN 8 c))])] := by
 refine RO.intro Tryz.func157 rfl 16 rfl (le_ok rfl) fun w Z => ?_
 refine T.sr [(2, (pI 0))] [] ?_
 refine T.seq ?_
 refine T.sr [(4, (pI 0))] [] ?_
 refine T.block ?_
 refine T.loop (ι := Nat) (fun xx_ => { tm := [(2, (pI 0)), (4, (pI (xx_ : Int))), (0, (pI (crcN xx_ c)))], rows := [], boxes := [] }) (fun xx_ => xx_ ≤ 8) (fun xx_ => 8 - xx_) 0 ?_ ?_ ?_
 · refine Env.le_mk ⟨rfl, ?_, ?_, trivial⟩ trivial trivial <;> exact p_83
 · exact Nat.zero_le _
 intro i hx
 try dsimp only at hx ⊢
 have hW_ := crcN_W h0_ i
 refine T.sr [(5, (pB (decide ((i : Int) < 8))))] [] ?_
 refine T.seq ?_
 refine T.ci rfl (fun h1 => ?_) (fun h1 => ?_)
 ·refine T.skip (T.seq (T.block (T.sg ?_)))
  refine TL.rx 1 [(6, (pI (crcN i c)))] [] ?_
  refine TL.c (Step.bin (r := .int .i64 (crcN i c % 2)) rfl rfl (lt_ok rfl) rfl rfl (Bin.and (k := .i64) (a := (crcN i c)) (b := 1) (and_one hW_))) ?_
  refine TL.rl [(3, (pI (crcN i c % 2)))] [] ?_
  refine T.sg ?_
  refine TL.rx 1 [(8, (pI (crcN i c)))] [] ?_
  refine TL.c (Step.bin (r := .int .i64 (crcN i c / 2)) rfl rfl (lt_ok rfl) rfl rfl (Bin.shr (k := .i64) (k' := .u64) (a := (crcN i c)) (b := 1) (by decide) (shr_one hW_.1))) ?_
  refine TL.rl [(0, (pI (crcN i c / 2)))] [] ?_
  refine T.sr [(11, (pB (decide ((crcN i c % 2) = 1))))] [] ?_
  refine T.ci rfl (fun h2 => ?_) (fun h2 => ?_)
  ·refine T.region ?_
   refine TL.rx 1 [(12, (pI (crcN i c / 2)))] [] ?_
   refine TL.c (Step.bin (r := .int .i64 (bxor (crcN i c / 2) 3988292384)) rfl rfl (lt_ok rfl) rfl rfl (Bin.xor (k := .i64) (a := (crcN i c / 2)) (b := 3988292384) (rfl))) ?_
   refine TL.rl [(0, (pI (bxor (crcN i c / 2) 3988292384)))] [] ?_
   refine T.region ?_
   refine TL.ad ((i : Int) + 1) ?_
   refine TL.rl [(4, (pI ((i : Int) + 1)))] [] ?_
   refine ⟨i + 1, by omega, by ((try dsimp only); omega), Env.le_mk ⟨rfl, ?_, ?_, trivial⟩ trivial trivial⟩ <;> exact p_83
  refine T.skip (T.region ?_)
  refine TL.ad ((i : Int) + 1) ?_
  refine TL.rl [(4, (pI ((i : Int) + 1)))] [] ?_
  refine ⟨i + 1, by omega, by ((try dsimp only); omega), Env.le_mk ⟨rfl, ?_, ?_, trivial⟩ trivial trivial⟩ <;> exact p_83
 refine T.exit ?_
 refine T.sr [(2, (pI (crcN i c)))] [] ?_
 refine T.ret ?_
 refine ⟨_, (.cons rfl .nil), rfl, _, (.r ?_ .nil)⟩ <;> ((congr 1; rw [show i = 8 from by omega]))
theorem ok_impl_CrcMore (c : Int) (b : List Int) (h0_ : U8s b) (h1_ : b.length ≤ 1099511627776) : RO Tryz.prog 145 [.one (.int .i64 c), .one (.ints .u8 b)] [(false, [.rd (.int .i64 (crcMore c b))])] := by
 refine RO.intro Tryz.func145 rfl 26 rfl (le_ok rfl) fun w Z => ?_
 refine T.bnd 1 0 rfl rfl fun hb_1_0 => ?_
 simp only [D.size, List.length_map] at hb_1_0
 refine T.sr [(4, (pI 0))] [] ?_
 refine T.seq (T.sg ?_)
 refine TL.rx 1 [(7, (pI c))] [] ?_
 refine TL.c (Step.cz (ok_impl_isWord c)) ?_
 refine TL.rl [(9, (pB (!(decide (0 ≤ c ∧ c ≤ 4294967295)))))] [] ?_
 refine T.cni rfl (fun h1 => ?_) (fun h1 => ?_)
 ·refine T.sr [(4, (pI 0))] [] ?_
  refine T.ret ?_
  exact p_162
 refine T.skip (T.sg ?_)
 refine TL.rx 1 [(10, (pI c))] [] ?_
 refine TL.c (Step.bin (r := .int .i64 (bxor c 4294967295)) rfl rfl (lt_ok rfl) rfl rfl (Bin.xor (k := .i64) (a := c) (b := 4294967295) (rfl))) ?_
 refine TL.rl [(0, (pI (bxor c 4294967295)))] [] ?_
 refine T.seq (T.sg ?_)
 refine TL.rx 1 [(12, (pS b))] [] ?_
 refine TL.c (Step.ln 5 1 (.ints .u8 b)) ?_
 refine TL.rl [(14, (pI 0))] [] ?_
 refine T.block ?_
 refine T.loop (ι := Nat) (fun xx_ => { tm := [(4, (pI 0)), (12, (pS b)), (13, (pI (b.length : Int))), (14, (pI (xx_ : Int))), (0, (pI (crcS c b xx_)))], rows := [], boxes := [] }) (fun xx_ => xx_ ≤ b.length) (fun xx_ => b.length - xx_) 0 ?_ ?_ ?_
 · refine Env.le_mk ⟨rfl, rfl, rfl, ?_, ?_, trivial⟩ trivial trivial <;> exact p_92
 · exact Nat.zero_le _
 intro i hx
 try dsimp only at hx ⊢
 have hW_ := crcS_W (c := c) p_4 h0_ i
 have hu_ := getD_u8 h0_ i
 have hx_ := xor_W hW_ (y := b.getD i 0) p_4
 refine T.sr [(15, (pB (decide ((i : Int) < (b.length : Int)))))] [] ?_
 refine T.seq ?_
 refine T.ci rfl (fun h2 => ?_) (fun h2 => ?_)
 ·refine T.skip (T.seq (T.block (T.sg ?_)))
  refine TL.c (Step.index (e := 5) (z := 1) (i := (i : Int)) rfl rfl (lt_ok rfl) p_7 rfl rfl rfl (lt_ok rfl) rfl p_23 p_47) ?_
  refine TL.c (Step.load (e := (.int .u8 (b.getD i 0))) rfl rfl (lt_ok rfl) p_7 rfl rfl) ?_
  refine TL.rl [(6, (.one (.d (.int .u8 (b.getD i 0)))))] [] ?_
  refine T.region ?_
  refine TL.rx 2 [(18, (pI (crcS c b i))), (19, (.one (.d (.int .u8 (b.getD i 0)))))] [] ?_
  refine TL.c (Step.conv (c := (b.getD i 0)) rfl rfl (lt_ok rfl) p_7 p_7 rfl (wrap_ok p_23 p_23)) ?_
  refine TL.c (Step.bin (r := .int .i64 (bxor (crcS c b i) (b.getD i 0))) rfl rfl (lt_ok rfl) rfl rfl (Bin.xor (k := .i64) (a := (crcS c b i)) (b := (b.getD i 0)) (rfl))) ?_
  have nn3 := @crcN_W (bxor (crcS c b i) (b.getD i 0)) p_53 8
  refine TL.c (Step.cz (ok_impl_steps (bxor (crcS c b i) (b.getD i 0)) p_53)) ?_
  refine TL.rl [(0, (pI (crcN 8 (bxor (crcS c b i) (b.getD i 0)))))] [] ?_
  refine T.region ?_
  refine TL.ad ((i : Int) + 1) ?_
  refine TL.rl [(14, (pI ((i : Int) + 1)))] [] ?_
  refine ⟨i + 1, by omega, by ((try dsimp only); omega), Env.le_mk ⟨rfl, rfl, rfl, ?_, ?_, trivial⟩ trivial trivial⟩ <;> exact p_92
 refine T.exit (T.sg ?_)
 refine TL.rx 1 [(24, (pI (crcS c b i)))] [] ?_
 refine TL.c (Step.bin (r := .int .i64 (bxor (crcS c b i) 4294967295)) rfl rfl (lt_ok rfl) rfl rfl (Bin.xor (k := .i64) (a := (crcS c b i)) (b := 4294967295) (rfl))) ?_
 refine TL.rl [(4, (pI (bxor (crcS c b i) 4294967295)))] [] ?_
 refine T.ret ?_
 exact p_162
theorem ok_impl_Crc (b : List Int) (h0_ : U8s b) (h1_ : b.length ≤ 1099511627776) : RO Tryz.prog 126 [.one (.ints .u8 b)] [(false, [.rd (.int .i64 (crcMore 0 b))])] := by
 refine RO.intro Tryz.func126 rfl 5 rfl (le_ok rfl) fun w Z => ?_
 refine T.bnd 0 0 rfl rfl fun hb_0_0 => ?_
 simp only [D.size, List.length_map] at hb_0_0
 refine T.sr [(2, (pI 0))] [] ?_
 refine T.sg ?_
 refine TL.rx 1 [(3, (pS b))] [] ?_
 refine TL.c (Step.cz (ok_impl_CrcMore 0 b p_5 p_1)) ?_
 refine TL.rl [(2, (pI (crcMore 0 b)))] [] ?_
 refine T.ret ?_
 exact ⟨_, (.cons rfl .nil), rfl, _, (.r rfl .nil)⟩
theorem ok_impl_FrameAt (l : SLimits) (s : List Int) (a : Int) (h0_ : U8s s) (h1_ : s.length ≤ 1048576) : RO Tryz.prog 97 [.agg l.cells, .one (.ints .u8 s), .one (.int .i64 a)] [(false, [.rd (.int .i64 (aj l s a).1)]), (false, [.rd (.int .i64 (aj l s a).2)])] := by
 refine RO.intro Tryz.func97 rfl 98 rfl (le_ok rfl) fun w Z => ?_
 refine T.bnd 1 0 rfl rfl fun hb_1_0 => ?_
 simp only [D.size, List.length_map] at hb_1_0
 have hf_ : limOk l = true → 1 ≤ l.f3 ∧ l.f3 ≤ 4000 := fun h_ => by simp [limOk] at h_; omega
 refine T.sr [(3, (.one (.ptr 3 0))), (6, (pI 0)), (7, (pI 0))] [(3, (46, (c_2 l)))] ?_
 refine T.seq (T.sg ?_)
 refine TL.rx 1 [(15, (.agg (c_2 l)))] [] ?_
 refine TL.c (Step.cz (ok_impl_LimitsOk l)) ?_
 refine TL.rx 2 [(18, (pB (!(limOk l))))] [] ?_
 rcases Bool.eq_false_or_eq_true (!(limOk l)) with hb1 | hb1
 ·refine TL.known 18 hb1 rfl ?_
  have hb1' := hb1
  replace hb1' : (limOk l) = false := by simpa only [Bool.not_eq_true', Bool.not_eq_false'] using hb1'
  refine TL.rl [(47, (pB true))] [] ?_
  refine T.ct ?_
  refine T.sr [(6, (pI 0)), (7, (pI 0))] [] ?_
  refine T.ret ?_
  exact p_118
 refine TL.known 18 hb1 rfl ?_
 have hb1' := hb1
 replace hb1' : (limOk l) = true := by simpa only [Bool.not_eq_true', Bool.not_eq_false'] using hb1'
 refine TL.rx 2 [(19, (pI a)), (20, (pS s))] [] ?_
 refine TL.gy 18 (Step.ln 5 1 (.ints .u8 s)) ?_
 refine TL.gy 18 (Step.bin (r := .int .i64 ((s.length : Int) - 1)) rfl rfl (lt_ok rfl) rfl rfl (Bin.sub (a := (s.length : Int)) (b := 1) p_54)) ?_
 refine TL.gy 18 (Step.cz (ok_impl_within a 0 ((s.length : Int) - 1))) ?_
 refine TL.rx 3 [(26, (pB (!(decide (0 ≤ a ∧ a ≤ ((s.length : Int) - 1))))))] [] ?_
 rcases Bool.eq_false_or_eq_true (!(decide (0 ≤ a ∧ a ≤ ((s.length : Int) - 1)))) with hb2 | hb2
 ·refine TL.known 26 hb2 rfl ?_
  have hb2' := hb2
  replace hb2' : (decide (0 ≤ a ∧ a ≤ ((s.length : Int) - 1))) = false := by simpa only [Bool.not_eq_true', Bool.not_eq_false'] using hb2'
  replace hb2' := of_decide_eq_false hb2'
  refine TL.rl [(47, (pB true))] [] ?_
  refine T.ct ?_
  refine T.sr [(6, (pI 0)), (7, (pI 0))] [] ?_
  refine T.ret ?_
  exact p_118
 refine TL.known 26 hb2 rfl ?_
 have hb2' := hb2
 replace hb2' : (decide (0 ≤ a ∧ a ≤ ((s.length : Int) - 1))) = true := by simpa only [Bool.not_eq_true', Bool.not_eq_false'] using hb2'
 replace hb2' := of_decide_eq_true hb2'
 refine TL.rx 2 [(27, (pS s)), (28, (pI a))] [] ?_
 refine TL.gy 26 (Step.index (e := 5) (z := 1) (i := a) rfl rfl (lt_ok rfl) p_7 rfl rfl rfl (lt_ok rfl) rfl p_23 p_47) ?_
 refine TL.gy 26 (Step.load (e := (.int .u8 (s.getD (a).toNat 0))) rfl rfl (lt_ok rfl) p_7 rfl rfl) ?_
 refine TL.rx 3 [(33, (pB (decide ((s.getD (a).toNat 0) ≠ 181))))] [] ?_
 rcases Bool.eq_false_or_eq_true (decide ((s.getD (a).toNat 0) ≠ 181)) with hb3 | hb3
 ·refine TL.known 33 hb3 rfl ?_
  have hb3' := hb3
  replace hb3' := of_decide_eq_true hb3'
  refine TL.rl [(47, (pB true))] [] ?_
  refine T.ct ?_
  refine T.sr [(6, (pI 0)), (7, (pI 0))] [] ?_
  refine T.ret ?_
  exact p_118
 refine TL.known 33 hb3 rfl ?_
 have hb3' := hb3
 replace hb3' := of_decide_eq_false hb3'
 refine TL.rx 1 [(34, (pS s))] [] ?_
 refine TL.gy 33 (Step.ln 5 1 (.ints .u8 s)) ?_
 refine TL.rx 1 [(36, (pI a))] [] ?_
 refine TL.gy 33 (Step.bin (r := .int .i64 ((s.length : Int) - a)) rfl rfl (lt_ok rfl) rfl rfl (Bin.sub (a := (s.length : Int)) (b := a) p_54)) ?_
 refine TL.rx 2 [(39, (pB (decide (1 < ((s.length : Int) - a)))))] [] ?_
 rcases Bool.eq_false_or_eq_true (decide (1 < ((s.length : Int) - a))) with hb4 | hb4
 ·refine TL.known 39 hb4 rfl ?_
  have hb4' := hb4
  replace hb4' := of_decide_eq_true hb4'
  refine TL.rx 2 [(40, (pS s)), (41, (pI a))] [] ?_
  refine TL.gy 39 (Step.bin (r := .int .i64 (a + 1)) rfl rfl (lt_ok rfl) rfl rfl (Bin.add (a := a) (b := 1) p_54)) ?_
  refine TL.gy 39 (Step.index (e := 5) (z := 1) (i := (a + 1)) rfl rfl (lt_ok rfl) p_7 rfl rfl rfl (lt_ok rfl) rfl p_23 p_47) ?_
  refine TL.gy 39 (Step.load (e := (.int .u8 (s.getD (a + 1).toNat 0))) rfl rfl (lt_ok rfl) p_7 rfl rfl) ?_
  refine TL.rl [(47, (pB (decide ((s.getD (a + 1).toNat 0) ≠ 70))))] [] ?_
  refine T.ci rfl (fun h5 => ?_) (fun h5 => ?_)
  ·refine T.sr [(6, (pI 0)), (7, (pI 0))] [] ?_
   refine T.ret ?_
   exact p_118
  refine T.skip (T.sg ?_)
  refine TL.rx 1 [(48, (pS s))] [] ?_
  refine TL.c (Step.ln 5 1 (.ints .u8 s)) ?_
  refine TL.rx 1 [(50, (pI a))] [] ?_
  refine TL.sb ((s.length : Int) - a) ?_
  refine TL.rl [(8, (pI ((s.length : Int) - a)))] [] ?_
  refine T.seq ?_
  refine T.sr [(53, (pB (decide (((s.length : Int) - a) < 4))))] [] ?_
  refine T.ci rfl (fun h6 => ?_) (fun h6 => ?_)
  ·refine T.sr [(6, (pI 1)), (7, (pI 0))] [] ?_
   refine T.ret ?_
   exact p_118
  refine T.skip (T.sg ?_)
  refine TL.rx 2 [(55, (pS s)), (56, (pI a))] [] ?_
  refine TL.ad (a + 2) ?_
  have nn7 := @getFix_bd s p_5 (a + 2) 2
  refine TL.c (Step.cz (ok_impl_GetFix s (a + 2) 2 p_5 p_1)) ?_
  refine TL.rl [(9, (pI (ao s (a + 2) 2).1))] [] ?_
  refine T.seq (T.block (T.sg ?_))
  refine TL.rx 3 [(63, (pI (ao s (a + 2) 2).1)), (65, (pI l.f3))] [] ?_
  refine TL.c (Step.cz (ok_impl_within (ao s (a + 2) 2).1 1 l.f3)) ?_
  refine TL.rl [(62, (pB (!(decide (1 ≤ (ao s (a + 2) 2).1 ∧ (ao s (a + 2) 2).1 ≤ l.f3)))))] [] ?_
  refine T.cni rfl (fun h8 => ?_) (fun h8 => ?_)
  ·refine T.sr [(6, (pI 0)), (7, (pI 0))] [] ?_
   refine T.ret ?_
   exact p_118
  refine T.sg ?_
  refine TL.rx 2 [(69, (pI ((s.length : Int) - a))), (70, (pI (ao s (a + 2) 2).1))] [] ?_
  refine TL.ad (8 + (ao s (a + 2) 2).1) ?_
  refine TL.rl [(68, (pB (decide (((s.length : Int) - a) < (8 + (ao s (a + 2) 2).1)))))] [] ?_
  refine T.ci rfl (fun h9 => ?_) (fun h9 => ?_)
  ·refine T.sg ?_
   refine TL.rx 1 [(73, (pI (ao s (a + 2) 2).1))] [] ?_
   refine TL.ad (8 + (ao s (a + 2) 2).1) ?_
   refine TL.rl [(6, (pI 1)), (7, (pI (8 + (ao s (a + 2) 2).1)))] [] ?_
   refine T.ret ?_
   exact p_118
  refine T.skip (T.sg ?_)
  refine TL.rx 2 [(76, (pS s)), (77, (pI a))] [] ?_
  refine TL.ad (a + 4) ?_
  have nn10 := @getFix_bd s p_5 (a + 4) 4
  refine TL.c (Step.cz (ok_impl_GetFix s (a + 4) 4 p_5 p_1)) ?_
  refine TL.rl [(12, (pI (ao s (a + 4) 4).1))] [] ?_
  refine T.wk [(1, (pS s)), (2, (pI a)), (6, (pI 0)), (7, (pI 0)), (9, (pI (ao s (a + 2) 2).1)), (12, (pI (ao s (a + 4) 4).1))] [] [] ?_
  refine T.seq (T.sg ?_)
  refine TL.rx 3 [(83, (pI (ao s (a + 4) 4).1)), (84, (pS s)), (85, (pI a))] [] ?_
  refine TL.ad (a + 8) ?_
  refine TL.rx 1 [(87, (pI a))] [] ?_
  refine TL.ad (a + 8) ?_
  refine TL.rx 1 [(89, (pI (ao s (a + 2) 2).1))] [] ?_
  refine TL.ad ((a + 8) + (ao s (a + 2) 2).1) ?_
  refine TL.c (Step.slice (e := 5) (z := 1) (l := (a + 8).toNat) (h := ((a + 8) + (ao s (a + 2) 2).1).toNat) rfl rfl (lt_ok rfl) p_7 rfl rfl rfl ((.some (i := (a + 8)) rfl p_23)) ((.some (i := ((a + 8) + (ao s (a + 2) 2).1)) rfl p_23)) p_23 p_47 rfl) ?_
  refine TL.c (Step.cz (ok_impl_Crc ((s.drop (a + 8).toNat).take (((a + 8) + (ao s (a + 2) 2).1).toNat - (a + 8).toNat)) p_102 p_110)) ?_
  refine TL.rl [(93, (pB (decide ((ao s (a + 4) 4).1 ≠ (crcMore 0 ((s.drop (a + 8).toNat).take (((a + 8) + (ao s (a + 2) 2).1).toNat - (a + 8).toNat)))))))] [] ?_
  refine T.ci rfl (fun h11 => ?_) (fun h11 => ?_)
  ·refine T.sg ?_
   refine TL.rx 1 [(94, (pI (ao s (a + 2) 2).1))] [] ?_
   refine TL.ad (8 + (ao s (a + 2) 2).1) ?_
   refine TL.rl [(6, (pI 2)), (7, (pI (8 + (ao s (a + 2) 2).1)))] [] ?_
   refine T.ret ?_
   exact p_118
  refine T.skip (T.sg ?_)
  refine TL.rx 1 [(96, (pI (ao s (a + 2) 2).1))] [] ?_
  refine TL.ad (8 + (ao s (a + 2) 2).1) ?_
  refine TL.rl [(6, (pI 3)), (7, (pI (8 + (ao s (a + 2) 2).1)))] [] ?_
  refine T.ret ?_
  exact p_118
 refine TL.known 39 hb4 rfl ?_
 have hb4' := hb4
 replace hb4' := of_decide_eq_false hb4'
 refine TL.rl [(47, (pB false))] [] ?_
 refine T.cf (T.skip (T.sg ?_))
 refine TL.rx 1 [(48, (pS s))] [] ?_
 refine TL.c (Step.ln 5 1 (.ints .u8 s)) ?_
 refine TL.rx 1 [(50, (pI a))] [] ?_
 refine TL.sb ((s.length : Int) - a) ?_
 refine TL.rl [(8, (pI ((s.length : Int) - a)))] [] ?_
 refine T.seq ?_
 refine T.sr [(53, (pB (decide (((s.length : Int) - a) < 4))))] [] ?_
 refine T.ci rfl (fun h12 => ?_) (fun h12 => ?_)
 ·refine T.sr [(6, (pI 1)), (7, (pI 0))] [] ?_
  refine T.ret ?_
  exact p_118
 refine T.skip (T.sg ?_)
 refine TL.rx 2 [(55, (pS s)), (56, (pI a))] [] ?_
 refine TL.ad (a + 2) ?_
 have nn13 := @getFix_bd s p_5 (a + 2) 2
 refine TL.c (Step.cz (ok_impl_GetFix s (a + 2) 2 p_5 p_1)) ?_
 refine TL.rl [(9, (pI (ao s (a + 2) 2).1))] [] ?_
 refine T.seq (T.block (T.sg ?_))
 refine TL.rx 3 [(63, (pI (ao s (a + 2) 2).1)), (65, (pI l.f3))] [] ?_
 refine TL.c (Step.cz (ok_impl_within (ao s (a + 2) 2).1 1 l.f3)) ?_
 refine TL.rl [(62, (pB (!(decide (1 ≤ (ao s (a + 2) 2).1 ∧ (ao s (a + 2) 2).1 ≤ l.f3)))))] [] ?_
 refine T.cni rfl (fun h14 => ?_) (fun h14 => ?_)
 ·refine T.sr [(6, (pI 0)), (7, (pI 0))] [] ?_
  refine T.ret ?_
  exact p_118
 refine T.sg ?_
 refine TL.rx 2 [(69, (pI ((s.length : Int) - a))), (70, (pI (ao s (a + 2) 2).1))] [] ?_
 refine TL.ad (8 + (ao s (a + 2) 2).1) ?_
 refine TL.rl [(68, (pB (decide (((s.length : Int) - a) < (8 + (ao s (a + 2) 2).1)))))] [] ?_
 refine T.ci rfl (fun h15 => ?_) (fun h15 => ?_)
 ·refine T.sg ?_
  refine TL.rx 1 [(73, (pI (ao s (a + 2) 2).1))] [] ?_
  refine TL.ad (8 + (ao s (a + 2) 2).1) ?_
  refine TL.rl [(6, (pI 1)), (7, (pI (8 + (ao s (a + 2) 2).1)))] [] ?_
  refine T.ret ?_
  exact p_118
 refine T.skip (T.sg ?_)
 refine TL.rx 2 [(76, (pS s)), (77, (pI a))] [] ?_
 refine TL.ad (a + 4) ?_
 have nn16 := @getFix_bd s p_5 (a + 4) 4
 refine TL.c (Step.cz (ok_impl_GetFix s (a + 4) 4 p_5 p_1)) ?_
 refine TL.rl [(12, (pI (ao s (a + 4) 4).1))] [] ?_
 refine T.seq (T.sg ?_)
 refine TL.rx 3 [(83, (pI (ao s (a + 4) 4).1)), (84, (pS s)), (85, (pI a))] [] ?_
 refine TL.ad (a + 8) ?_
 refine TL.rx 1 [(87, (pI a))] [] ?_
 refine TL.ad (a + 8) ?_
 refine TL.rx 1 [(89, (pI (ao s (a + 2) 2).1))] [] ?_
 refine TL.ad ((a + 8) + (ao s (a + 2) 2).1) ?_
 refine TL.c (Step.slice (e := 5) (z := 1) (l := (a + 8).toNat) (h := ((a + 8) + (ao s (a + 2) 2).1).toNat) rfl rfl (lt_ok rfl) p_7 rfl rfl rfl ((.some (i := (a + 8)) rfl p_23)) ((.some (i := ((a + 8) + (ao s (a + 2) 2).1)) rfl p_23)) p_23 p_47 rfl) ?_
 refine TL.c (Step.cz (ok_impl_Crc ((s.drop (a + 8).toNat).take (((a + 8) + (ao s (a + 2) 2).1).toNat - (a + 8).toNat)) p_102 p_110)) ?_
 refine TL.rl [(93, (pB (decide ((ao s (a + 4) 4).1 ≠ (crcMore 0 ((s.drop (a + 8).toNat).take (((a + 8) + (ao s (a + 2) 2).1).toNat - (a + 8).toNat)))))))] [] ?_
 refine T.wk [(6, (pI 0)), (7, (pI 0)), (9, (pI (ao s (a + 2) 2).1)), (93, (pB (decide ((ao s (a + 4) 4).1 ≠ (crcMore 0 ((s.drop (a + 8).toNat).take (((a + 8) + (ao s (a + 2) 2).1).toNat - (a + 8).toNat)))))))] [] [] ?_
 refine T.ci rfl (fun h17 => ?_) (fun h17 => ?_)
 ·refine T.sg ?_
  refine TL.rx 1 [(94, (pI (ao s (a + 2) 2).1))] [] ?_
  refine TL.ad (8 + (ao s (a + 2) 2).1) ?_
  refine TL.rl [(6, (pI 2)), (7, (pI (8 + (ao s (a + 2) 2).1)))] [] ?_
  refine T.ret ?_
  exact p_118
 refine T.skip (T.sg ?_)
 refine TL.rx 1 [(96, (pI (ao s (a + 2) 2).1))] [] ?_
 refine TL.ad (8 + (ao s (a + 2) 2).1) ?_
 refine TL.rl [(6, (pI 3)), (7, (pI (8 + (ao s (a + 2) 2).1)))] [] ?_
 refine T.ret ?_
 exact p_118
theorem ok_impl_FrameData (l : SLimits) (s : List Int) (a : Int) (h0_ : U8s s) (h1_ : s.length ≤ 1048576) : RO Tryz.prog 98 [.agg l.cells, .one (.ints .u8 s), .one (.int .i64 a)] [(false, [.own 5 (.ints .u8 (ab l s a))]), (false, [.rd (.bool (decide ((aj l s a).1 = 3)))])] := by
 refine RO.intro Tryz.func98 rfl 27 rfl (le_ok rfl) fun w Z => ?_
 refine T.bnd 1 0 rfl rfl fun hb_1_0 => ?_
 simp only [D.size, List.length_map] at hb_1_0
 refine T.sr [(3, (.one (.ptr 3 0))), (6, (.one (.nil))), (7, (pB false))] [(3, (46, (c_2 l)))] ?_
 refine T.sg ?_
 refine TL.rx 3 [(11, (.agg (c_2 l))), (12, (pS s)), (13, (pI a))] [] ?_
 have nn1 := frameAt_bd l s a
 refine TL.c (Step.cz (ok_impl_FrameAt l s a p_5 p_1)) ?_
 refine TL.rl [(8, (pI (aj l s a).1)), (9, (pI (aj l s a).2))] [] ?_
 refine T.seq ?_
 refine T.sr [(18, (pB (decide ((aj l s a).1 ≠ 3))))] [] ?_
 refine T.ci rfl (fun h2 => ?_) (fun h2 => ?_)
 ·refine T.sr [(6, (.one (.nil))), (7, (pB false))] [] ?_
  refine T.ret ?_
  refine ⟨_, (.cons rfl (.cons rfl .nil)), rfl, _, (.nn ?_ (.r ?_ .nil))⟩ <;> exact p_90
 refine T.skip (T.sg ?_)
 refine TL.rx 2 [(19, (pS s)), (20, (pI a))] [] ?_
 refine TL.ad (a + 8) ?_
 refine TL.rx 2 [(22, (pI a)), (23, (pI (aj l s a).2))] [] ?_
 refine TL.ad (a + (aj l s a).2) ?_
 refine TL.c (Step.slice (e := 5) (z := 1) (l := (a + 8).toNat) (h := (a + (aj l s a).2).toNat) rfl rfl (lt_ok rfl) p_7 rfl rfl rfl ((.some (i := (a + 8)) rfl p_23)) ((.some (i := (a + (aj l s a).2)) rfl p_23)) p_23 p_47 rfl) ?_
 refine TL.c (Step.cz (ok_impl_copyBytes ((s.drop (a + 8).toNat).take ((a + (aj l s a).2).toNat - (a + 8).toNat)) p_97)) ?_
 refine TL.rl [(6, (.one (.row 1026 []))), (7, (pB true))] [] ?_
 refine T.ret ?_
 refine ⟨_, (.cons rfl (.cons rfl .nil)), rfl, _, (.o ?_ (.r ?_ .nil))⟩ <;> exact p_90
theorem ok_impl_scan (l : SLimits) (s : List Int) (closed : Bool) (skip : Int) (h0_ : U8s s) (h1_ : s.length ≤ 1048576) (h2_ : 0 ≤ skip ∧ skip ≤ 1048576) (h3_ : closed = false) : RO Tryz.prog 57 [.agg l.cells, .one (.ints .u8 s), .one (.bool closed), .one (.int .i64 skip)] [(false, [.own 137 (.sl 47 ((scanGo l s (s.length + 1) 0 skip []).1.map SEvent.cells))]), (false, [.rd (.int .i64 (scanGo l s (s.length + 1) 0 skip []).2.1)]), (false, [.rd (.int .i64 (scanGo l s (s.length + 1) 0 skip []).2.2)])] := by
 refine RO.intro Tryz.func57 rfl 94 rfl (le_ok rfl) fun w Z => ?_
 refine T.bnd 1 0 rfl rfl fun hb_1_0 => ?_
 simp only [D.size, List.length_map] at hb_1_0
 refine T.sr [(4, (.one (.ptr 4 0))), (8, (.one (.nil))), (9, (pI 0)), (10, (pI 0))] [(4, (46, (c_2 l)))] ?_
 refine T.sg ?_
 refine TL.c (Step.lt 137 47 744 [] [] (.sl 47 [])) ?_
 refine TL.rl [(11, (.one (.row 19 []))), (12, (pI 0))] [] ?_
 refine T.seq (T.block ?_)
 refine T.loop (ι := Nat × Int × Int × (List SEvent)) (fun xx_ => { tm := [(1, (pS s)), (2, (pB closed)), (4, (.one (.ptr 4 0))), (11, (.one (.row 19 []))), (12, (pI (xx_.2.1))), (3, (pI (xx_.2.2.1)))], rows := [(19, (137, (.sl 47 ((xx_.2.2.2).map SEvent.cells))))], boxes := [(4, (46, (c_2 l)))] }) (fun xx_ => 0 ≤ (xx_.2.1) ∧ (xx_.2.1) ≤ (s.length : Int) ∧ 0 ≤ (xx_.2.2.1) ∧ (xx_.2.2.1) ≤ skip + (xx_.2.1) ∧ ((xx_.2.2.2).length : Int) ≤ (xx_.2.1) ∧ (s.length : Int) - (xx_.2.1) < (xx_.1) ∧ scanGo l s (xx_.1) (xx_.2.1) (xx_.2.2.1) (xx_.2.2.2) = scanGo l s (s.length + 1) 0 skip []) (fun xx_ => (xx_.1)) (s.length + 1, 0, skip, []) ?_ ?_ ?_
 · refine Env.le_mk ⟨rfl, rfl, rfl, rfl, ?_, ?_, trivial⟩ ⟨?_, trivial⟩ ⟨rfl, trivial⟩ <;> exact p_12
 · ((try dsimp only); refine ⟨by omega, by omega, by omega, by omega, by simp, by omega, rfl⟩)
 intro xx_ hx
 obtain ⟨d, a, k, o⟩ := xx_
 try dsimp only at hx ⊢
 obtain ⟨hx1, hx2, hx3, hx4, hx5, hx6, hx7⟩ := hx
 refine T.seq (T.sg ?_)
 refine TL.rx 2 [(20, (pI a)), (21, (pS s))] [] ?_
 refine TL.c (Step.ln 5 1 (.ints .u8 s)) ?_
 refine TL.rl [(23, (pB (decide (a < (s.length : Int)))))] [] ?_
 refine T.ci rfl (fun h1 => ?_) (fun h1 => ?_)
 ·refine T.skip (T.block (T.sg ?_))
  refine TL.rx 3 [(25, (.agg (c_2 l))), (26, (pS s)), (27, (pI a))] [] ?_
  have nn2 := frameAt_bd l s a
  refine TL.c (Step.cz (ok_impl_FrameAt l s a p_5 p_1)) ?_
  refine TL.rl [(13, (pI (aj l s a).1)), (14, (pI (aj l s a).2))] [] ?_
  refine T.seq (T.sg ?_)
  refine TL.rx 3 [(33, (pB (decide ((aj l s a).1 = 1))))] [] ?_
  rcases Bool.eq_false_or_eq_true (decide ((aj l s a).1 = 1)) with hb3 | hb3
  ·refine TL.known 33 hb3 rfl ?_
   have hb3' := hb3
   replace hb3' := of_decide_eq_true hb3'
   refine TL.rx 1 [(34, (pB closed))] [] ?_
   refine TL.known 34 (c := false) (h3_) rfl ?_
   refine TL.rl [(36, (pB true))] [] ?_
   refine T.ct ?_
   refine T.sr [(8, (.one (.row 19 []))), (9, (pI k)), (10, (pI a))] [] ?_
   refine T.ret ?_
   exact p_137
  refine TL.known 33 hb3 rfl ?_
  have hb3' := hb3
  replace hb3' := of_decide_eq_false hb3'
  refine TL.rl [(36, (pB false))] [] ?_
  refine T.cf (T.skip (T.seq ?_))
  refine T.sr [(41, (pB (decide ((aj l s a).1 ≠ 3))))] [] ?_
  refine T.ci rfl (fun h4 => ?_) (fun h4 => ?_)
  ·refine T.sg ?_
   refine TL.rx 1 [(42, (pI a))] [] ?_
   refine TL.c (Step.bin (r := .int .i64 (a + 1)) rfl rfl (lt_ok rfl) rfl rfl (Bin.add (a := a) (b := 1) p_17)) ?_
   refine TL.rl [(12, (pI (a + 1)))] [] ?_
   refine T.sg ?_
   refine TL.rx 1 [(44, (pI k))] [] ?_
   refine TL.c (Step.bin (r := .int .i64 (k + 1)) rfl rfl (lt_ok rfl) rfl rfl (Bin.add (a := k) (b := 1) p_17)) ?_
   refine TL.rl [(3, (pI (k + 1)))] [] ?_
   refine T.exit ?_
   refine ⟨(d - 1, a + 1, k + 1, o), by (try dsimp only); (refine ⟨by omega, by omega, by omega, by omega, by first | omega | (simp only [List.length_append, List.length_cons, List.length_nil]; omega), by omega, ?_⟩; first | (have h3_ : ¬ (aj l s a).1 = 3 := p_4; exact (sg_skip p_4 p_4 p_4 p_4).symm.trans hx7) | (have h3_ : (aj l s a).1 = 3 := p_4; first | (have hk_ : k = 0 := p_4; first | exact (sg_zero p_4 p_4 p_4 p_4 p_43).symm.trans hx7 | exact (congrArg (fun q => scanGo l s (d - 1) (a + (aj l s a).2) q _) hk_).trans ((sg_zero p_4 p_4 p_4 p_4 p_43).symm.trans hx7)) | (have hk_ : ¬ k = 0 := p_4; exact (sg_some p_4 p_4 p_4 p_4 p_43).symm.trans hx7))), by ((try dsimp only); omega), Env.le_mk ⟨rfl, rfl, rfl, rfl, ?_, ?_, trivial⟩ ⟨rfl, trivial⟩ ⟨rfl, trivial⟩⟩ <;> exact p_12
  refine T.skip (T.seq ?_)
  refine T.sr [(47, (pB (decide (k ≠ 0))))] [] ?_
  refine T.ci rfl (fun h5 => ?_) (fun h5 => ?_)
  ·refine T.region ?_
   refine TL.rx 3 [(48, (.one (.row 19 []))), (50, (.agg (c_26 k)))] [] ?_
   refine TL.c (Step.lt 137 47 744 [.tmp 50] [(c_26 k)] (.sl 47 ([(⟨1, k, (⟨0, (⟨0, 0, [], 0, []⟩ : SVote), (⟨0, 0, [], [], []⟩ : SQc), (⟨0, 0, 0, [], [], (⟨0, 0, [], [], []⟩ : SQc)⟩ : SHead), (⟨(⟨0, 0, 0, [], [], (⟨0, 0, [], [], []⟩ : SQc)⟩ : SHead), []⟩ : SBlock), (⟨0, []⟩ : STc), (⟨[], (⟨0, 0, [], [], []⟩ : SQc)⟩ : SProof), (⟨0, 0, 0, [], []⟩ : SIncl)⟩ : SMsg)⟩ : SEvent)].map SEvent.cells)) (hw := (wf_map SEvent.len _))) ?_
   refine TL.c (Step.ak 137 47 744 19 51 (.sl 47 (o.map SEvent.cells)) (.sl 47 ([(⟨1, k, (⟨0, (⟨0, 0, [], 0, []⟩ : SVote), (⟨0, 0, [], [], []⟩ : SQc), (⟨0, 0, 0, [], [], (⟨0, 0, [], [], []⟩ : SQc)⟩ : SHead), (⟨(⟨0, 0, 0, [], [], (⟨0, 0, [], [], []⟩ : SQc)⟩ : SHead), []⟩ : SBlock), (⟨0, []⟩ : STc), (⟨[], (⟨0, 0, [], [], []⟩ : SQc)⟩ : SProof), (⟨0, 0, 0, [], []⟩ : SIncl)⟩ : SMsg)⟩ : SEvent)].map SEvent.cells)) (.sl 47 ((o ++ [(⟨1, k, (⟨0, (⟨0, 0, [], 0, []⟩ : SVote), (⟨0, 0, [], [], []⟩ : SQc), (⟨0, 0, 0, [], [], (⟨0, 0, [], [], []⟩ : SQc)⟩ : SHead), (⟨(⟨0, 0, 0, [], [], (⟨0, 0, [], [], []⟩ : SQc)⟩ : SHead), []⟩ : SBlock), (⟨0, []⟩ : STc), (⟨[], (⟨0, 0, [], [], []⟩ : SQc)⟩ : SProof), (⟨0, 0, 0, [], []⟩ : SIncl)⟩ : SMsg)⟩ : SEvent)]).map SEvent.cells))) ?_
   refine TL.rl [(11, (.one (.row 19 [])))] [] ?_
   refine T.wk [(1, (pS s)), (2, (pB closed)), (4, (.one (.ptr 4 0))), (11, (.one (.row 19 []))), (12, (pI a)), (3, (pI k)), (14, (pI (aj l s a).2))] [(19, (137, (.sl 47 ((o ++ [(⟨1, k, (⟨0, (⟨0, 0, [], 0, []⟩ : SVote), (⟨0, 0, [], [], []⟩ : SQc), (⟨0, 0, 0, [], [], (⟨0, 0, [], [], []⟩ : SQc)⟩ : SHead), (⟨(⟨0, 0, 0, [], [], (⟨0, 0, [], [], []⟩ : SQc)⟩ : SHead), []⟩ : SBlock), (⟨0, []⟩ : STc), (⟨[], (⟨0, 0, [], [], []⟩ : SQc)⟩ : SProof), (⟨0, 0, 0, [], []⟩ : SIncl)⟩ : SMsg)⟩ : SEvent)]).map SEvent.cells))))] [(4, (46, (c_2 l)))] ?_
   refine T.sg ?_
   refine TL.rx 3 [(54, (.agg (c_2 l))), (55, (pS s)), (56, (pI a))] [] ?_
   refine TL.c (Step.cz (ok_impl_FrameData l s a p_5 p_1)) ?_
   refine TL.rl [(15, (.one (.row 1057 [])))] [] ?_
   refine T.seq (T.sg ?_)
   refine TL.rx 2 [(61, (.agg (c_2 l))), (62, (.one (.row 1057 [])))] [] ?_
   refine TL.c (Step.cz (ok_impl_Decode l (ab l s a) p_78 p_111)) ?_
   refine TL.rl [(17, (.one (.ptr 17 0))), (18, (pI (ac l (ab l s a)).2))] [(17, (43, (c_5 a l s)))] ?_
   refine T.wk [(1, (pS s)), (2, (pB closed)), (4, (.one (.ptr 4 0))), (11, (.one (.row 19 []))), (12, (pI a)), (3, (pI k)), (14, (pI (aj l s a).2)), (17, (.one (.ptr 17 0))), (18, (pI (ac l (ab l s a)).2))] [(19, (137, (.sl 47 ((o ++ [(⟨1, k, (⟨0, (⟨0, 0, [], 0, []⟩ : SVote), (⟨0, 0, [], [], []⟩ : SQc), (⟨0, 0, 0, [], [], (⟨0, 0, [], [], []⟩ : SQc)⟩ : SHead), (⟨(⟨0, 0, 0, [], [], (⟨0, 0, [], [], []⟩ : SQc)⟩ : SHead), []⟩ : SBlock), (⟨0, []⟩ : STc), (⟨[], (⟨0, 0, [], [], []⟩ : SQc)⟩ : SProof), (⟨0, 0, 0, [], []⟩ : SIncl)⟩ : SMsg)⟩ : SEvent)]).map SEvent.cells)))), (4063, (5, (.ints .u8 (ac l (ab l s a)).1.f1.f2))), (6063, (5, (.ints .u8 (ac l (ab l s a)).1.f1.f4))), (9063, (5, (.ints .u8 (ac l (ab l s a)).1.f2.f2))), (10063, (5, (.ints .u8 (ac l (ab l s a)).1.f2.f3))), (11063, (24, (.bss (ac l (ab l s a)).1.f2.f4))), (15063, (5, (.ints .u8 (ac l (ab l s a)).1.f3.f3))), (16063, (5, (.ints .u8 (ac l (ab l s a)).1.f3.f4))), (19063, (5, (.ints .u8 (ac l (ab l s a)).1.f3.f5.f2))), (20063, (5, (.ints .u8 (ac l (ab l s a)).1.f3.f5.f3))), (21063, (24, (.bss (ac l (ab l s a)).1.f3.f5.f4))), (25063, (5, (.ints .u8 (ac l (ab l s a)).1.f4.f0.f3))), (26063, (5, (.ints .u8 (ac l (ab l s a)).1.f4.f0.f4))), (29063, (5, (.ints .u8 (ac l (ab l s a)).1.f4.f0.f5.f2))), (30063, (5, (.ints .u8 (ac l (ab l s a)).1.f4.f0.f5.f3))), (31063, (24, (.bss (ac l (ab l s a)).1.f4.f0.f5.f4))), (32063, (24, (.bss (ac l (ab l s a)).1.f4.f1))), (34063, (111, (.sl 3 ((ac l (ab l s a)).1.f5.f1.map SEntry.cells)))), (35063, (31, (.sl 10 ((ac l (ab l s a)).1.f6.f0.map SHead.cells)))), (38063, (5, (.ints .u8 (ac l (ab l s a)).1.f6.f1.f2))), (39063, (5, (.ints .u8 (ac l (ab l s a)).1.f6.f1.f3))), (40063, (24, (.bss (ac l (ab l s a)).1.f6.f1.f4))), (44063, (5, (.ints .u8 (ac l (ab l s a)).1.f7.f3))), (45063, (24, (.bss (ac l (ab l s a)).1.f7.f4)))] [(17, (43, (c_5 a l s))), (4, (46, (c_2 l)))] ?_
   refine T.sr [(67, (pB (decide ((ac l (ab l s a)).2 = 0))))] [] ?_
   refine T.ci rfl (fun h6 => ?_) (fun h6 => ?_)
   ·refine T.region ?_
    refine TL.rx 3 [(68, (.one (.row 19 []))), (70, (.agg (c_4 a l s)))] [] ?_
    refine TL.c (Step.lk 137 47 744 [.tmp 70] [(c_4 a l s)] [4063, 6063, 9063, 10063, 11063, 15063, 16063, 19063, 20063, 21063, 25063, 26063, 29063, 30063, 31063, 32063, 34063, 35063, 38063, 39063, 40063, 44063, 45063] (.sl 47 ([(⟨3, 0, (ac l (ab l s a)).1⟩ : SEvent)].map SEvent.cells)) (hw := (wf_map SEvent.len _))) ?_
    refine TL.c (Step.ak 137 47 744 19 71 (.sl 47 ((o ++ [(⟨1, k, (⟨0, (⟨0, 0, [], 0, []⟩ : SVote), (⟨0, 0, [], [], []⟩ : SQc), (⟨0, 0, 0, [], [], (⟨0, 0, [], [], []⟩ : SQc)⟩ : SHead), (⟨(⟨0, 0, 0, [], [], (⟨0, 0, [], [], []⟩ : SQc)⟩ : SHead), []⟩ : SBlock), (⟨0, []⟩ : STc), (⟨[], (⟨0, 0, [], [], []⟩ : SQc)⟩ : SProof), (⟨0, 0, 0, [], []⟩ : SIncl)⟩ : SMsg)⟩ : SEvent)]).map SEvent.cells)) (.sl 47 ([(⟨3, 0, (ac l (ab l s a)).1⟩ : SEvent)].map SEvent.cells)) (.sl 47 (((o ++ [(⟨1, k, (⟨0, (⟨0, 0, [], 0, []⟩ : SVote), (⟨0, 0, [], [], []⟩ : SQc), (⟨0, 0, 0, [], [], (⟨0, 0, [], [], []⟩ : SQc)⟩ : SHead), (⟨(⟨0, 0, 0, [], [], (⟨0, 0, [], [], []⟩ : SQc)⟩ : SHead), []⟩ : SBlock), (⟨0, []⟩ : STc), (⟨[], (⟨0, 0, [], [], []⟩ : SQc)⟩ : SProof), (⟨0, 0, 0, [], []⟩ : SIncl)⟩ : SMsg)⟩ : SEvent)]) ++ [(⟨3, 0, (ac l (ab l s a)).1⟩ : SEvent)]).map SEvent.cells))) ?_
    refine TL.rl [(11, (.one (.row 19 [])))] [] ?_
    refine T.region ?_
    refine TL.rx 2 [(78, (pI a)), (79, (pI (aj l s a).2))] [] ?_
    refine TL.c (Step.bin (r := .int .i64 (a + (aj l s a).2)) rfl rfl (lt_ok rfl) rfl rfl (Bin.add (a := a) (b := (aj l s a).2) p_17)) ?_
    refine TL.rl [(12, (pI (a + (aj l s a).2))), (3, (pI 0))] [] ?_
    refine ⟨(d - 1, a + (aj l s a).2, 0, (o ++ [(⟨1, k, (⟨0, (⟨0, 0, [], 0, []⟩ : SVote), (⟨0, 0, [], [], []⟩ : SQc), (⟨0, 0, 0, [], [], (⟨0, 0, [], [], []⟩ : SQc)⟩ : SHead), (⟨(⟨0, 0, 0, [], [], (⟨0, 0, [], [], []⟩ : SQc)⟩ : SHead), []⟩ : SBlock), (⟨0, []⟩ : STc), (⟨[], (⟨0, 0, [], [], []⟩ : SQc)⟩ : SProof), (⟨0, 0, 0, [], []⟩ : SIncl)⟩ : SMsg)⟩ : SEvent)]) ++ [(⟨3, 0, (ac l (ab l s a)).1⟩ : SEvent)]), by (try dsimp only); (refine ⟨by omega, by omega, by omega, by omega, by first | omega | (simp only [List.length_append, List.length_cons, List.length_nil]; omega), by omega, ?_⟩; first | (have h3_ : ¬ (aj l s a).1 = 3 := p_4; exact (sg_skip p_4 p_4 p_4 p_4).symm.trans hx7) | (have h3_ : (aj l s a).1 = 3 := p_4; first | (have hk_ : k = 0 := p_4; first | exact (sg_zero p_4 p_4 p_4 p_4 p_43).symm.trans hx7 | exact (congrArg (fun q => scanGo l s (d - 1) (a + (aj l s a).2) q _) hk_).trans ((sg_zero p_4 p_4 p_4 p_4 p_43).symm.trans hx7)) | (have hk_ : ¬ k = 0 := p_4; exact (sg_some p_4 p_4 p_4 p_4 p_43).symm.trans hx7))), by ((try dsimp only); omega), Env.le_mk ⟨p_7, p_7, p_7, p_7, p_7, p_7, trivial⟩ ⟨p_7, trivial⟩ ⟨p_7, trivial⟩⟩ <;> exact p_12
   refine T.region ?_
   refine TL.rx 3 [(73, (.one (.row 19 []))), (75, (.agg (c_9 a l s)))] [] ?_
   refine TL.c (Step.lt 137 47 744 [.tmp 75] [(c_9 a l s)] (.sl 47 ([(⟨2, (ac l (ab l s a)).2, (⟨0, (⟨0, 0, [], 0, []⟩ : SVote), (⟨0, 0, [], [], []⟩ : SQc), (⟨0, 0, 0, [], [], (⟨0, 0, [], [], []⟩ : SQc)⟩ : SHead), (⟨(⟨0, 0, 0, [], [], (⟨0, 0, [], [], []⟩ : SQc)⟩ : SHead), []⟩ : SBlock), (⟨0, []⟩ : STc), (⟨[], (⟨0, 0, [], [], []⟩ : SQc)⟩ : SProof), (⟨0, 0, 0, [], []⟩ : SIncl)⟩ : SMsg)⟩ : SEvent)].map SEvent.cells)) (hw := (wf_map SEvent.len _))) ?_
   refine TL.c (Step.ak 137 47 744 19 76 (.sl 47 ((o ++ [(⟨1, k, (⟨0, (⟨0, 0, [], 0, []⟩ : SVote), (⟨0, 0, [], [], []⟩ : SQc), (⟨0, 0, 0, [], [], (⟨0, 0, [], [], []⟩ : SQc)⟩ : SHead), (⟨(⟨0, 0, 0, [], [], (⟨0, 0, [], [], []⟩ : SQc)⟩ : SHead), []⟩ : SBlock), (⟨0, []⟩ : STc), (⟨[], (⟨0, 0, [], [], []⟩ : SQc)⟩ : SProof), (⟨0, 0, 0, [], []⟩ : SIncl)⟩ : SMsg)⟩ : SEvent)]).map SEvent.cells)) (.sl 47 ([(⟨2, (ac l (ab l s a)).2, (⟨0, (⟨0, 0, [], 0, []⟩ : SVote), (⟨0, 0, [], [], []⟩ : SQc), (⟨0, 0, 0, [], [], (⟨0, 0, [], [], []⟩ : SQc)⟩ : SHead), (⟨(⟨0, 0, 0, [], [], (⟨0, 0, [], [], []⟩ : SQc)⟩ : SHead), []⟩ : SBlock), (⟨0, []⟩ : STc), (⟨[], (⟨0, 0, [], [], []⟩ : SQc)⟩ : SProof), (⟨0, 0, 0, [], []⟩ : SIncl)⟩ : SMsg)⟩ : SEvent)].map SEvent.cells)) (.sl 47 (((o ++ [(⟨1, k, (⟨0, (⟨0, 0, [], 0, []⟩ : SVote), (⟨0, 0, [], [], []⟩ : SQc), (⟨0, 0, 0, [], [], (⟨0, 0, [], [], []⟩ : SQc)⟩ : SHead), (⟨(⟨0, 0, 0, [], [], (⟨0, 0, [], [], []⟩ : SQc)⟩ : SHead), []⟩ : SBlock), (⟨0, []⟩ : STc), (⟨[], (⟨0, 0, [], [], []⟩ : SQc)⟩ : SProof), (⟨0, 0, 0, [], []⟩ : SIncl)⟩ : SMsg)⟩ : SEvent)]) ++ [(⟨2, (ac l (ab l s a)).2, (⟨0, (⟨0, 0, [], 0, []⟩ : SVote), (⟨0, 0, [], [], []⟩ : SQc), (⟨0, 0, 0, [], [], (⟨0, 0, [], [], []⟩ : SQc)⟩ : SHead), (⟨(⟨0, 0, 0, [], [], (⟨0, 0, [], [], []⟩ : SQc)⟩ : SHead), []⟩ : SBlock), (⟨0, []⟩ : STc), (⟨[], (⟨0, 0, [], [], []⟩ : SQc)⟩ : SProof), (⟨0, 0, 0, [], []⟩ : SIncl)⟩ : SMsg)⟩ : SEvent)]).map SEvent.cells))) ?_
   refine TL.rl [(11, (.one (.row 19 [])))] [] ?_
   refine T.region ?_
   refine TL.rx 2 [(78, (pI a)), (79, (pI (aj l s a).2))] [] ?_
   refine TL.c (Step.bin (r := .int .i64 (a + (aj l s a).2)) rfl rfl (lt_ok rfl) rfl rfl (Bin.add (a := a) (b := (aj l s a).2) p_17)) ?_
   refine TL.rl [(12, (pI (a + (aj l s a).2))), (3, (pI 0))] [] ?_
   refine ⟨(d - 1, a + (aj l s a).2, 0, (o ++ [(⟨1, k, (⟨0, (⟨0, 0, [], 0, []⟩ : SVote), (⟨0, 0, [], [], []⟩ : SQc), (⟨0, 0, 0, [], [], (⟨0, 0, [], [], []⟩ : SQc)⟩ : SHead), (⟨(⟨0, 0, 0, [], [], (⟨0, 0, [], [], []⟩ : SQc)⟩ : SHead), []⟩ : SBlock), (⟨0, []⟩ : STc), (⟨[], (⟨0, 0, [], [], []⟩ : SQc)⟩ : SProof), (⟨0, 0, 0, [], []⟩ : SIncl)⟩ : SMsg)⟩ : SEvent)]) ++ [(⟨2, (ac l (ab l s a)).2, (⟨0, (⟨0, 0, [], 0, []⟩ : SVote), (⟨0, 0, [], [], []⟩ : SQc), (⟨0, 0, 0, [], [], (⟨0, 0, [], [], []⟩ : SQc)⟩ : SHead), (⟨(⟨0, 0, 0, [], [], (⟨0, 0, [], [], []⟩ : SQc)⟩ : SHead), []⟩ : SBlock), (⟨0, []⟩ : STc), (⟨[], (⟨0, 0, [], [], []⟩ : SQc)⟩ : SProof), (⟨0, 0, 0, [], []⟩ : SIncl)⟩ : SMsg)⟩ : SEvent)]), by (try dsimp only); (refine ⟨by omega, by omega, by omega, by omega, by first | omega | (simp only [List.length_append, List.length_cons, List.length_nil]; omega), by omega, ?_⟩; first | (have h3_ : ¬ (aj l s a).1 = 3 := p_4; exact (sg_skip p_4 p_4 p_4 p_4).symm.trans hx7) | (have h3_ : (aj l s a).1 = 3 := p_4; first | (have hk_ : k = 0 := p_4; first | exact (sg_zero p_4 p_4 p_4 p_4 p_43).symm.trans hx7 | exact (congrArg (fun q => scanGo l s (d - 1) (a + (aj l s a).2) q _) hk_).trans ((sg_zero p_4 p_4 p_4 p_4 p_43).symm.trans hx7)) | (have hk_ : ¬ k = 0 := p_4; exact (sg_some p_4 p_4 p_4 p_4 p_43).symm.trans hx7))), by ((try dsimp only); omega), Env.le_mk ⟨p_7, p_7, p_7, p_7, p_7, p_7, trivial⟩ ⟨p_7, trivial⟩ ⟨p_7, trivial⟩⟩ <;> exact p_12
  refine T.skip (T.sg ?_)
  refine TL.rx 3 [(54, (.agg (c_2 l))), (55, (pS s)), (56, (pI a))] [] ?_
  refine TL.c (Step.cz (ok_impl_FrameData l s a p_5 p_1)) ?_
  refine TL.rl [(15, (.one (.row 1057 [])))] [] ?_
  refine T.seq (T.sg ?_)
  refine TL.rx 2 [(61, (.agg (c_2 l))), (62, (.one (.row 1057 [])))] [] ?_
  refine TL.c (Step.cz (ok_impl_Decode l (ab l s a) p_78 p_111)) ?_
  refine TL.rl [(17, (.one (.ptr 17 0))), (18, (pI (ac l (ab l s a)).2))] [(17, (43, (c_5 a l s)))] ?_
  refine T.wk [(1, (pS s)), (2, (pB closed)), (4, (.one (.ptr 4 0))), (11, (.one (.row 19 []))), (12, (pI a)), (3, (pI k)), (14, (pI (aj l s a).2)), (17, (.one (.ptr 17 0))), (18, (pI (ac l (ab l s a)).2))] [(19, (137, (.sl 47 (o.map SEvent.cells)))), (4063, (5, (.ints .u8 (ac l (ab l s a)).1.f1.f2))), (6063, (5, (.ints .u8 (ac l (ab l s a)).1.f1.f4))), (9063, (5, (.ints .u8 (ac l (ab l s a)).1.f2.f2))), (10063, (5, (.ints .u8 (ac l (ab l s a)).1.f2.f3))), (11063, (24, (.bss (ac l (ab l s a)).1.f2.f4))), (15063, (5, (.ints .u8 (ac l (ab l s a)).1.f3.f3))), (16063, (5, (.ints .u8 (ac l (ab l s a)).1.f3.f4))), (19063, (5, (.ints .u8 (ac l (ab l s a)).1.f3.f5.f2))), (20063, (5, (.ints .u8 (ac l (ab l s a)).1.f3.f5.f3))), (21063, (24, (.bss (ac l (ab l s a)).1.f3.f5.f4))), (25063, (5, (.ints .u8 (ac l (ab l s a)).1.f4.f0.f3))), (26063, (5, (.ints .u8 (ac l (ab l s a)).1.f4.f0.f4))), (29063, (5, (.ints .u8 (ac l (ab l s a)).1.f4.f0.f5.f2))), (30063, (5, (.ints .u8 (ac l (ab l s a)).1.f4.f0.f5.f3))), (31063, (24, (.bss (ac l (ab l s a)).1.f4.f0.f5.f4))), (32063, (24, (.bss (ac l (ab l s a)).1.f4.f1))), (34063, (111, (.sl 3 ((ac l (ab l s a)).1.f5.f1.map SEntry.cells)))), (35063, (31, (.sl 10 ((ac l (ab l s a)).1.f6.f0.map SHead.cells)))), (38063, (5, (.ints .u8 (ac l (ab l s a)).1.f6.f1.f2))), (39063, (5, (.ints .u8 (ac l (ab l s a)).1.f6.f1.f3))), (40063, (24, (.bss (ac l (ab l s a)).1.f6.f1.f4))), (44063, (5, (.ints .u8 (ac l (ab l s a)).1.f7.f3))), (45063, (24, (.bss (ac l (ab l s a)).1.f7.f4)))] [(17, (43, (c_5 a l s))), (4, (46, (c_2 l)))] ?_
  refine T.sr [(67, (pB (decide ((ac l (ab l s a)).2 = 0))))] [] ?_
  refine T.ci rfl (fun h7 => ?_) (fun h7 => ?_)
  ·refine T.region ?_
   refine TL.rx 3 [(68, (.one (.row 19 []))), (70, (.agg (c_4 a l s)))] [] ?_
   refine TL.c (Step.lk 137 47 744 [.tmp 70] [(c_4 a l s)] [4063, 6063, 9063, 10063, 11063, 15063, 16063, 19063, 20063, 21063, 25063, 26063, 29063, 30063, 31063, 32063, 34063, 35063, 38063, 39063, 40063, 44063, 45063] (.sl 47 ([(⟨3, 0, (ac l (ab l s a)).1⟩ : SEvent)].map SEvent.cells)) (hw := (wf_map SEvent.len _))) ?_
   refine TL.c (Step.ak 137 47 744 19 71 (.sl 47 (o.map SEvent.cells)) (.sl 47 ([(⟨3, 0, (ac l (ab l s a)).1⟩ : SEvent)].map SEvent.cells)) (.sl 47 ((o ++ [(⟨3, 0, (ac l (ab l s a)).1⟩ : SEvent)]).map SEvent.cells))) ?_
   refine TL.rl [(11, (.one (.row 19 [])))] [] ?_
   refine T.region ?_
   refine TL.rx 2 [(78, (pI a)), (79, (pI (aj l s a).2))] [] ?_
   refine TL.c (Step.bin (r := .int .i64 (a + (aj l s a).2)) rfl rfl (lt_ok rfl) rfl rfl (Bin.add (a := a) (b := (aj l s a).2) p_17)) ?_
   refine TL.rl [(12, (pI (a + (aj l s a).2))), (3, (pI 0))] [] ?_
   refine ⟨(d - 1, a + (aj l s a).2, 0, o ++ [(⟨3, 0, (ac l (ab l s a)).1⟩ : SEvent)]), by (try dsimp only); (refine ⟨by omega, by omega, by omega, by omega, by first | omega | (simp only [List.length_append, List.length_cons, List.length_nil]; omega), by omega, ?_⟩; first | (have h3_ : ¬ (aj l s a).1 = 3 := p_4; exact (sg_skip p_4 p_4 p_4 p_4).symm.trans hx7) | (have h3_ : (aj l s a).1 = 3 := p_4; first | (have hk_ : k = 0 := p_4; first | exact (sg_zero p_4 p_4 p_4 p_4 p_43).symm.trans hx7 | exact (congrArg (fun q => scanGo l s (d - 1) (a + (aj l s a).2) q _) hk_).trans ((sg_zero p_4 p_4 p_4 p_4 p_43).symm.trans hx7)) | (have hk_ : ¬ k = 0 := p_4; exact (sg_some p_4 p_4 p_4 p_4 p_43).symm.trans hx7))), by ((try dsimp only); omega), Env.le_mk ⟨p_7, p_7, p_7, p_7, p_7, p_7, trivial⟩ ⟨p_7, trivial⟩ ⟨p_7, trivial⟩⟩ <;> exact p_12
  refine T.region ?_
  refine TL.rx 3 [(73, (.one (.row 19 []))), (75, (.agg (c_9 a l s)))] [] ?_
  refine TL.c (Step.lt 137 47 744 [.tmp 75] [(c_9 a l s)] (.sl 47 ([(⟨2, (ac l (ab l s a)).2, (⟨0, (⟨0, 0, [], 0, []⟩ : SVote), (⟨0, 0, [], [], []⟩ : SQc), (⟨0, 0, 0, [], [], (⟨0, 0, [], [], []⟩ : SQc)⟩ : SHead), (⟨(⟨0, 0, 0, [], [], (⟨0, 0, [], [], []⟩ : SQc)⟩ : SHead), []⟩ : SBlock), (⟨0, []⟩ : STc), (⟨[], (⟨0, 0, [], [], []⟩ : SQc)⟩ : SProof), (⟨0, 0, 0, [], []⟩ : SIncl)⟩ : SMsg)⟩ : SEvent)].map SEvent.cells)) (hw := (wf_map SEvent.len _))) ?_
  refine TL.c (Step.ak 137 47 744 19 76 (.sl 47 (o.map SEvent.cells)) (.sl 47 ([(⟨2, (ac l (ab l s a)).2, (⟨0, (⟨0, 0, [], 0, []⟩ : SVote), (⟨0, 0, [], [], []⟩ : SQc), (⟨0, 0, 0, [], [], (⟨0, 0, [], [], []⟩ : SQc)⟩ : SHead), (⟨(⟨0, 0, 0, [], [], (⟨0, 0, [], [], []⟩ : SQc)⟩ : SHead), []⟩ : SBlock), (⟨0, []⟩ : STc), (⟨[], (⟨0, 0, [], [], []⟩ : SQc)⟩ : SProof), (⟨0, 0, 0, [], []⟩ : SIncl)⟩ : SMsg)⟩ : SEvent)].map SEvent.cells)) (.sl 47 ((o ++ [(⟨2, (ac l (ab l s a)).2, (⟨0, (⟨0, 0, [], 0, []⟩ : SVote), (⟨0, 0, [], [], []⟩ : SQc), (⟨0, 0, 0, [], [], (⟨0, 0, [], [], []⟩ : SQc)⟩ : SHead), (⟨(⟨0, 0, 0, [], [], (⟨0, 0, [], [], []⟩ : SQc)⟩ : SHead), []⟩ : SBlock), (⟨0, []⟩ : STc), (⟨[], (⟨0, 0, [], [], []⟩ : SQc)⟩ : SProof), (⟨0, 0, 0, [], []⟩ : SIncl)⟩ : SMsg)⟩ : SEvent)]).map SEvent.cells))) ?_
  refine TL.rl [(11, (.one (.row 19 [])))] [] ?_
  refine T.region ?_
  refine TL.rx 2 [(78, (pI a)), (79, (pI (aj l s a).2))] [] ?_
  refine TL.c (Step.bin (r := .int .i64 (a + (aj l s a).2)) rfl rfl (lt_ok rfl) rfl rfl (Bin.add (a := a) (b := (aj l s a).2) p_17)) ?_
  refine TL.rl [(12, (pI (a + (aj l s a).2))), (3, (pI 0))] [] ?_
  refine ⟨(d - 1, a + (aj l s a).2, 0, o ++ [(⟨2, (ac l (ab l s a)).2, (⟨0, (⟨0, 0, [], 0, []⟩ : SVote), (⟨0, 0, [], [], []⟩ : SQc), (⟨0, 0, 0, [], [], (⟨0, 0, [], [], []⟩ : SQc)⟩ : SHead), (⟨(⟨0, 0, 0, [], [], (⟨0, 0, [], [], []⟩ : SQc)⟩ : SHead), []⟩ : SBlock), (⟨0, []⟩ : STc), (⟨[], (⟨0, 0, [], [], []⟩ : SQc)⟩ : SProof), (⟨0, 0, 0, [], []⟩ : SIncl)⟩ : SMsg)⟩ : SEvent)]), by (try dsimp only); (refine ⟨by omega, by omega, by omega, by omega, by first | omega | (simp only [List.length_append, List.length_cons, List.length_nil]; omega), by omega, ?_⟩; first | (have h3_ : ¬ (aj l s a).1 = 3 := p_4; exact (sg_skip p_4 p_4 p_4 p_4).symm.trans hx7) | (have h3_ : (aj l s a).1 = 3 := p_4; first | (have hk_ : k = 0 := p_4; first | exact (sg_zero p_4 p_4 p_4 p_4 p_43).symm.trans hx7 | exact (congrArg (fun q => scanGo l s (d - 1) (a + (aj l s a).2) q _) hk_).trans ((sg_zero p_4 p_4 p_4 p_4 p_43).symm.trans hx7)) | (have hk_ : ¬ k = 0 := p_4; exact (sg_some p_4 p_4 p_4 p_4 p_43).symm.trans hx7))), by ((try dsimp only); omega), Env.le_mk ⟨p_7, p_7, p_7, p_7, p_7, p_7, trivial⟩ ⟨p_7, trivial⟩ ⟨p_7, trivial⟩⟩ <;> exact p_12
 refine T.exit (T.seq (T.sg ?_))
 refine TL.rx 1 [(81, (pB closed))] [] ?_
 refine TL.known 81 (c := false) (h3_) rfl ?_
 refine TL.rl [(85, (pB false))] [] ?_
 refine T.cf (T.skip ?_)
 refine T.sr [(8, (.one (.row 19 []))), (9, (pI k)), (10, (pI a))] [] ?_
 refine T.ret ?_
 exact p_137
theorem ok_impl_Tail (l : SLimits) (s : List Int) (h0_ : U8s s) (h1_ : s.length ≤ 1048576) : RO Tryz.prog 15 [.agg l.cells, .one (.ints .u8 s)] [(false, [.rd (.int .i64 (tailOf l s).1)]), (false, [.rd (.int .i64 (tailOf l s).2)])] := by
 refine RO.intro Tryz.func15 rfl 24 rfl (le_ok rfl) fun w Z => ?_
 refine T.bnd 1 0 rfl rfl fun hb_1_0 => ?_
 simp only [D.size, List.length_map] at hb_1_0
 refine T.sr [(2, (.one (.ptr 2 0))), (4, (pI 0)), (5, (pI 0))] [(2, (46, (c_2 l)))] ?_
 refine T.seq (T.sg ?_)
 refine TL.rx 1 [(9, (.agg (c_2 l)))] [] ?_
 refine TL.c (Step.cz (ok_impl_LimitsOk l)) ?_
 refine TL.rl [(11, (pB (!(limOk l))))] [] ?_
 refine T.cn rfl (fun h1 => ?_) (fun h1 => ?_)
 ·refine T.sr [(4, (pI 0)), (5, (pI 0))] [] ?_
  refine T.ret ?_
  exact p_146
 refine T.skip (T.sg ?_)
 refine TL.rx 2 [(13, (.agg (c_2 l))), (14, (pS s))] [] ?_
 have nn2 := scanGo_bd l s (s.length + 1) 0 0 [] p_4 p_4 p_4
 refine TL.c (Step.cz (ok_impl_scan l s false 0 p_5 p_1 p_4 (by rfl))) ?_
 refine TL.rl [(7, (pI (scanGo l s (s.length + 1) 0 0 []).2.1)), (8, (pI (scanGo l s (s.length + 1) 0 0 []).2.2))] [] ?_
 refine T.sg ?_
 refine TL.rx 2 [(19, (pI (scanGo l s (s.length + 1) 0 0 []).2.1)), (20, (pS s))] [] ?_
 refine TL.c (Step.ln 5 1 (.ints .u8 s)) ?_
 refine TL.rx 1 [(22, (pI (scanGo l s (s.length + 1) 0 0 []).2.2))] [] ?_
 refine TL.sb ((s.length : Int) - (scanGo l s (s.length + 1) 0 0 []).2.2) ?_
 refine TL.rl [(4, (pI (scanGo l s (s.length + 1) 0 0 []).2.1)), (5, (pI ((s.length : Int) - (scanGo l s (s.length + 1) 0 0 []).2.2)))] [] ?_
 refine T.ret ?_
 exact p_146
theorem ok_laws_FnExactTail (aL : SLimits) (aS : List Int) (h0_ : aL.ok) (h1_ : U8s aS) : RO Tryz.prog 4 [.agg aL.cells, .one (.ints .u8 aS)] [(false, [.rd (.bool true)])] := by
 refine RO.intro Tryz.func4 rfl 43 rfl (le_ok rfl) fun w Z => ?_
 refine T.bnd 1 0 rfl rfl fun hb_1_0 => ?_
 simp only [D.size, List.length_map] at hb_1_0
 refine T.sr [(2, (.one (.ptr 2 0))), (4, (pB false))] [(2, (23, [cI aL.f0, cI aL.f1, cI aL.f2, cI aL.f3, cI aL.f4]))] ?_
 refine T.seq (T.sg ?_)
 refine TL.rx 1 [(10, (pS aS))] [] ?_
 refine TL.c (Step.ln 5 1 (.ints .u8 aS)) ?_
 refine TL.rl [(12, (pB (decide (1048576 < (aS.length : Int)))))] [] ?_
 refine T.ci rfl (fun h1 => ?_) (fun h1 => ?_)
 ·refine T.sr [(4, (pB true))] [] ?_
  refine T.ret ?_
  exact ⟨_, (.cons rfl .nil), rfl, _, (.r rfl .nil)⟩
 refine T.skip (T.sg ?_)
 refine TL.rx 1 [(14, (.agg [cI aL.f0, cI aL.f1, cI aL.f2, cI aL.f3, cI aL.f4]))] [] ?_
 refine TL.c (Step.cz (ok_laws_toLimits aL)) ?_
 refine TL.rx 1 [(16, (pS aS))] [] ?_
 refine TL.c (Step.cz (ok_laws_toByteS aS (by first | omega | assumption | exact mem_getD h0_.2 (by omega)))) ?_
 refine TL.c (Step.cz (ok_spec_Tail aL aS p_5 p_1)) ?_
 refine TL.rl [(5, (pI (tailOf aL aS).1)), (6, (pI (tailOf aL aS).2))] [] ?_
 refine T.sg ?_
 refine TL.rx 1 [(21, (pS aS))] [] ?_
 refine TL.c (Step.cz (ok_laws_toByteS aS (by first | omega | assumption | exact mem_getD h0_.2 (by omega)))) ?_
 refine TL.rl [(7, (.one (.row 1022 [])))] [] ?_
 refine T.sg ?_
 refine TL.rx 1 [(24, (.agg [cI aL.f0, cI aL.f1, cI aL.f2, cI aL.f3, cI aL.f4]))] [] ?_
 refine TL.c (Step.cz (ok_laws_toLimits aL)) ?_
 refine TL.rx 1 [(26, (.one (.row 1022 [])))] [] ?_
 refine TL.c (Step.cz (ok_impl_Tail aL aS p_5 p_1)) ?_
 refine TL.rl [(8, (pI (tailOf aL aS).1)), (9, (pI (tailOf aL aS).2))] [] ?_
 refine T.seq (T.sg ?_)
 refine TL.rx 3 [(32, (pB (decide ((tailOf aL aS).1 ≠ (tailOf aL aS).1))))] [] ?_
 refine TL.known 32 (c := false) p_105 rfl ?_
 refine TL.rx 4 [(33, (pB false)), (36, (pB (decide ((tailOf aL aS).2 ≠ (tailOf aL aS).2))))] [] ?_
 refine TL.known 36 (c := false) p_105 rfl ?_
 refine TL.rl [(37, (pB false))] [] ?_
 refine T.cf (T.skip (T.seq (T.sg ?_)))
 refine TL.rx 2 [(38, (.one (.row 1022 []))), (39, (pS aS))] [] ?_
 refine TL.c (Step.cz (ok_laws_toByteS aS (by first | omega | assumption | exact mem_getD h0_.2 (by omega)))) ?_
 refine TL.c (Step.cz (ok_laws_eqByteS aS aS)) ?_
 refine TL.known 41 (c := true) p_105 rfl ?_
 refine TL.rl [(42, (pB false))] [] ?_
 refine T.cf (T.skip ?_)
 refine T.sr [(4, (pB true))] [] ?_
 refine T.ret ?_
 exact ⟨_, (.cons rfl .nil), rfl, _, (.r rfl .nil)⟩
end Go.Proofs.YtjohlfccejljlaaGreat.Rf
