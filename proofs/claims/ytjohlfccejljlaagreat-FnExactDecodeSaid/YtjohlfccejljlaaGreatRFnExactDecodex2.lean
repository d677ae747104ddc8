/- The functions that FnExactDecode calls, each held to what it answers. Printed by a program of this session; Lean checks it. -/
import Derived.Test.YtjohlfccejljlaaGreatProg
import Derived.Test.YtjohlfccejljlaaGreatRFnExactDecodex1
namespace Go.Proofs.YtjohlfccejljlaaGreat.Rf
open Go.RowKit
set_option linter.unusedVariables false
set_option linter.unnecessarySimpa false
set_option linter.unusedSimpArgs false
set_option maxRecDepth 100000
set_option maxHeartbeats 40000000
theorem ok_impl_ShaBlock (h : List Int) (b : List Int) (h0_ : U8s b) : RO Tryz.prog 153 [.one (.ints .i64 h), .one (.ints .u8 b)] [(false, [.own 3 (.ints .i64 (shaBlock h b))])] := by
 refine RO.intro Tryz.func153 rfl 235 rfl (le_ok rfl) fun w Z => ?_
 refine T.bnd 0 0 rfl rfl fun hb_0_0 => ?_
 simp only [D.size, List.length_map] at hb_0_0
 refine T.bnd 1 0 rfl rfl fun hb_1_0 => ?_
 simp only [D.size, List.length_map] at hb_1_0
 refine T.sr [(4, (.one (.nil)))] [] ?_
 refine T.seq (T.sg ?_)
 refine TL.rx 1 [(25, (.one (.d (.ints .i64 h))))] [] ?_
 refine TL.c (Step.ln 3 1 (.ints .i64 h)) ?_
 refine TL.rx 2 [(28, (pB (decide ((h.length : Int) ≠ 8))))] [] ?_
 rcases Bool.eq_false_or_eq_true (decide ((h.length : Int) ≠ 8)) with hb1 | hb1
 ·refine TL.known 28 hb1 rfl ?_
  have hb1' := hb1
  replace hb1' := of_decide_eq_true hb1'
  refine TL.rl [(32, (pB true))] [] ?_
  refine T.ct ?_
  refine T.sr [(4, (.one (.nil)))] [] ?_
  refine T.ret ?_
  exact p_148
 refine TL.known 28 hb1 rfl ?_
 have hb1' := hb1
 replace hb1' := of_decide_eq_false hb1'
 refine TL.rx 1 [(29, (pS b))] [] ?_
 refine TL.gy 28 (Step.ln 5 1 (.ints .u8 b)) ?_
 refine TL.rl [(32, (pB (decide ((b.length : Int) ≠ 64))))] [] ?_
 refine T.ci rfl (fun h2 => ?_) (fun h2 => ?_)
 ·refine T.sr [(4, (.one (.nil)))] [] ?_
  refine T.ret ?_
  exact p_148
 refine T.skip (T.seq (T.sg ?_))
 refine TL.rx 1 [(33, (.one (.d (.ints .i64 h))))] [] ?_
 refine TL.c (Step.ln 3 1 (.ints .i64 h)) ?_
 refine TL.rl [(35, (pI 0))] [] ?_
 refine T.block ?_
 refine T.loop (ι := Nat) (fun xx_ => { tm := [(0, (.one (.d (.ints .i64 h)))), (1, (pS b)), (33, (.one (.d (.ints .i64 h)))), (34, (pI (h.length : Int))), (35, (pI (xx_ : Int)))], rows := [], boxes := [] }) (fun xx_ => xx_ ≤ h.length ∧ wordsOk (h.take xx_) = true) (fun xx_ => h.length - xx_) 0 ?_ ?_ ?_
 · refine Env.le_mk ⟨rfl, rfl, rfl, rfl, ?_, trivial⟩ trivial trivial <;> exact p_86
 · (refine ⟨Nat.zero_le _, by rw [List.take_zero]; rfl⟩)
 intro i hx
 try dsimp only at hx ⊢
 obtain ⟨hx1, hx2⟩ := hx
 refine T.sr [(36, (pB (decide ((i : Int) < (h.length : Int)))))] [] ?_
 refine T.seq ?_
 refine T.ci rfl (fun h3 => ?_) (fun h3 => ?_)
 ·refine T.skip (T.seq (T.block (T.sg ?_)))
  refine TL.c (Step.index (e := 3) (z := 1) (i := (i : Int)) rfl rfl (lt_ok rfl) p_6 rfl rfl rfl (lt_ok rfl) rfl p_5 p_35) ?_
  refine TL.c (Step.load (e := (.int .i64 (h.getD i 0))) rfl rfl (lt_ok rfl) p_6 rfl rfl) ?_
  refine TL.rl [(6, (pI (h.getD i 0)))] [] ?_
  refine T.sg ?_
  refine TL.rx 1 [(39, (pI (h.getD i 0)))] [] ?_
  refine TL.c (Step.cz (ok_impl_isWord (h.getD i 0))) ?_
  refine TL.rl [(41, (pB (!(decide (0 ≤ (h.getD i 0) ∧ (h.getD i 0) ≤ 4294967295)))))] [] ?_
  refine T.cni rfl (fun h4 => ?_) (fun h4 => ?_)
  ·refine T.sr [(4, (.one (.nil)))] [] ?_
   refine T.ret ?_
   exact p_148
  refine T.skip (T.region ?_)
  refine TL.c (Step.bin (r := .int .i64 ((i : Int) + 1)) rfl rfl (lt_ok rfl) rfl rfl (Bin.add (a := (i : Int)) (b := 1) p_10)) ?_
  refine TL.rl [(35, (pI ((i : Int) + 1)))] [] ?_
  refine ⟨i + 1, by (refine ⟨by omega, words_step p_4 hx2 p_4⟩), by first | omega | (dsimp only; omega), Env.le_mk ⟨rfl, rfl, rfl, rfl, ?_, trivial⟩ trivial trivial⟩ <;> exact p_86
 refine T.exit (T.sg ?_)
 refine TL.c (Step.buildArr (zs := List.replicate 64 (.int .i64 0)) (size := 1) (pss := []) (ps' := (List.replicate 64 (.d (.int .i64 0)))) rfl rfl (lt_ok rfl) p_6 .nil rfl p_6 p_6) ?_
 refine TL.c (Step.cz (ok_impl_rounds )) ?_
 refine TL.c (Step.buildArr (zs := List.replicate 8 (.int .i64 0)) (size := 1) (pss := []) (ps' := [cI 0, cI 0, cI 0, cI 0, cI 0, cI 0, cI 0, cI 0]) rfl rfl (lt_ok rfl) p_6 .nil rfl p_6 p_6) ?_
 refine TL.c (Step.allocArr (zs := List.replicate 64 (.int .i64 0)) (zd := List.replicate 64 (.int .i64 0)) (d := (.ints .i64 (List.replicate 64 0))) rfl rfl (lt_ok rfl) p_6 (zeroB_ok _ _ p_6) p_6 rfl trivial (by decide) (by decide) (by decide) rfl p_104) ?_
 refine TL.c (Step.allocArr (zs := List.replicate 8 (.int .i64 0)) (zd := List.replicate 8 (.int .i64 0)) (d := (.ints .i64 (List.replicate 8 0))) rfl rfl (lt_ok rfl) p_6 (zeroB_ok _ _ p_6) p_6 rfl trivial (by decide) (by decide) (by decide) rfl p_104) ?_
 refine TL.c (Step.store_row (n := 64) (p := (.agg (List.replicate 64 (.d (.int .i64 0))))) (ps := (List.replicate 64 (.d (.int .i64 0)))) (es := (List.replicate 64 ((.int .i64 0)))) (ss := []) (d1 := (.ints .i64 (List.replicate 64 (0)))) (d' := (.ints .i64 (List.replicate 64 (0)))) rfl rfl p_6 rfl rfl rfl rfl rfl rfl (.val rfl (.val rfl (.val rfl (.val rfl (.val rfl (.val rfl (.val rfl (.val rfl (.val rfl (.val rfl (.val rfl (.val rfl (.val rfl (.val rfl (.val rfl (.val rfl (.val rfl (.val rfl (.val rfl (.val rfl (.val rfl (.val rfl (.val rfl (.val rfl (.val rfl (.val rfl (.val rfl (.val rfl (.val rfl (.val rfl (.val rfl (.val rfl (.val rfl (.val rfl (.val rfl (.val rfl (.val rfl (.val rfl (.val rfl (.val rfl (.val rfl (.val rfl (.val rfl (.val rfl (.val rfl (.val rfl (.val rfl (.val rfl (.val rfl (.val rfl (.val rfl (.val rfl (.val rfl (.val rfl (.val rfl (.val rfl (.val rfl (.val rfl (.val rfl (.val rfl (.val rfl (.val rfl (.val rfl (.val rfl .nil)))))))))))))))))))))))))))))))))))))))))))))))))))))))))))))))) p_104 (by have h_ := Putd.all (k := .i64) (xs := List.replicate 64 0) (ys := (List.replicate 64 (0))) (by first | exact hl_ | rfl); exact h_) rfl) ?_
 refine TL.rx 1 [(8, (.one (.row 1044 [])))] [] ?_
 refine TL.c (Step.store_row (n := 8) (p := (.agg [cI 0, cI 0, cI 0, cI 0, cI 0, cI 0, cI 0, cI 0])) (ps := [cI 0, cI 0, cI 0, cI 0, cI 0, cI 0, cI 0, cI 0]) (es := [(.int .i64 0), (.int .i64 0), (.int .i64 0), (.int .i64 0), (.int .i64 0), (.int .i64 0), (.int .i64 0), (.int .i64 0)]) (ss := []) (d1 := (.ints .i64 [0, 0, 0, 0, 0, 0, 0, 0])) (d' := (.ints .i64 [0, 0, 0, 0, 0, 0, 0, 0])) rfl rfl p_6 rfl rfl rfl rfl rfl rfl (.val rfl (.val rfl (.val rfl (.val rfl (.val rfl (.val rfl (.val rfl (.val rfl .nil)))))))) p_104 (by have h_ := Putd.all (k := .i64) (xs := List.replicate 8 0) (ys := [0, 0, 0, 0, 0, 0, 0, 0]) (by first | exact hvl_ | exact hvl_.symm | rfl | (simp; done)); exact h_) rfl) ?_
 refine TL.nil ?_
 refine T.wk [(0, (.one (.d (.ints .i64 h)))), (1, (pS b)), (7, (.one (.rptr 7 [] 0 0))), (9, (.one (.rptr 9 [] 0 0))), (8, (.one (.row 1044 [])))] [(1044, (3, (.ints .i64 shaK))), (7, (164, (.ints .i64 (List.replicate 64 (0))))), (9, (165, (.ints .i64 [0, 0, 0, 0, 0, 0, 0, 0])))] [] ?_
 refine T.seq ?_
 refine T.sr [(46, (pI 0))] [] ?_
 refine T.block ?_
 refine T.loop (ι := Nat) (fun xx_ => { tm := [(0, (.one (.d (.ints .i64 h)))), (1, (pS b)), (7, (.one (.rptr 7 [] 0 0))), (9, (.one (.rptr 9 [] 0 0))), (8, (.one (.row 1044 []))), (46, (pI (xx_ : Int)))], rows := [(1044, (3, (.ints .i64 shaK))), (7, (164, (.ints .i64 (aI b xx_)))), (9, (165, (.ints .i64 [0, 0, 0, 0, 0, 0, 0, 0])))], boxes := [] }) (fun xx_ => xx_ ≤ 16) (fun xx_ => 16 - xx_) 0 ?_ ?_ ?_
 · refine Env.le_mk ⟨rfl, rfl, rfl, rfl, rfl, ?_, trivial⟩ ⟨rfl, ?_, rfl, trivial⟩ trivial <;> exact p_84
 · exact Nat.zero_le _
 intro i hx
 try dsimp only at hx ⊢
 have hwo_ : wordsOk h = true := by rw [List.take_of_length_le p_4] at hx2; exact hx2
 have hl_ := aI_len b hx
 have hu0_ := getD_u8 h0_ (4 * (i : Int)).toNat
 have hu1_ := getD_u8 h0_ (4 * (i : Int) + 1).toNat
 have hu2_ := getD_u8 h0_ (4 * (i : Int) + 2).toNat
 have hu3_ := getD_u8 h0_ (4 * (i : Int) + 3).toNat
 refine T.sr [(47, (pB (decide ((i : Int) < 16))))] [] ?_
 refine T.seq ?_
 refine T.ci rfl (fun h5 => ?_) (fun h5 => ?_)
 ·refine T.skip (T.seq (T.block ?_))
  refine T.sr [(10, (pI (i : Int)))] [] ?_
  obtain ⟨y6, hy6_⟩ : ∃ y_, y_ = bshl (b.getD (4 * (i : Int)).toNat 0) 24 := ⟨_, rfl⟩
  obtain ⟨y7, hy7_⟩ : ∃ y_, y_ = bshl (b.getD ((4 * (i : Int)) + 1).toNat 0) 16 := ⟨_, rfl⟩
  obtain ⟨y8, hy8_⟩ : ∃ y_, y_ = bshl (b.getD ((4 * (i : Int)) + 2).toNat 0) 8 := ⟨_, rfl⟩
  obtain ⟨y9, hy9_⟩ : ∃ y_, y_ = bor (bor (bor y6 y7) y8) (b.getD ((4 * (i : Int)) + 3).toNat 0) := ⟨_, rfl⟩
  refine T.draw [⟨49, (pI (i : Int)), []⟩, ⟨50, (pS b), []⟩, ⟨51, (pI (i : Int)), []⟩, ⟨52, (pI (4 * (i : Int))), []⟩, ⟨53, (.one (.eptr (.ints .u8 b) (4 * (i : Int)).toNat 0)), []⟩, ⟨54, (.one (.d (.int .u8 (b.getD (4 * (i : Int)).toNat 0)))), []⟩, ⟨55, (pI (b.getD (4 * (i : Int)).toNat 0)), []⟩, ⟨56, (pI y6), []⟩, ⟨57, (pS b), []⟩, ⟨58, (pI (i : Int)), []⟩, ⟨59, (pI (4 * (i : Int))), []⟩, ⟨60, (pI ((4 * (i : Int)) + 1)), []⟩, ⟨61, (.one (.eptr (.ints .u8 b) ((4 * (i : Int)) + 1).toNat 0)), []⟩, ⟨62, (.one (.d (.int .u8 (b.getD ((4 * (i : Int)) + 1).toNat 0)))), []⟩, ⟨63, (pI (b.getD ((4 * (i : Int)) + 1).toNat 0)), []⟩, ⟨64, (pI y7), []⟩, ⟨65, (pI (bor y6 y7)), []⟩, ⟨66, (pS b), []⟩, ⟨67, (pI (i : Int)), []⟩, ⟨68, (pI (4 * (i : Int))), []⟩, ⟨69, (pI ((4 * (i : Int)) + 2)), []⟩, ⟨70, (.one (.eptr (.ints .u8 b) ((4 * (i : Int)) + 2).toNat 0)), []⟩, ⟨71, (.one (.d (.int .u8 (b.getD ((4 * (i : Int)) + 2).toNat 0)))), []⟩, ⟨72, (pI (b.getD ((4 * (i : Int)) + 2).toNat 0)), []⟩, ⟨73, (pI y8), []⟩, ⟨74, (pI (bor (bor y6 y7) y8)), []⟩, ⟨75, (pS b), []⟩, ⟨76, (pI (i : Int)), []⟩, ⟨77, (pI (4 * (i : Int))), []⟩, ⟨78, (pI ((4 * (i : Int)) + 3)), []⟩, ⟨79, (.one (.eptr (.ints .u8 b) ((4 * (i : Int)) + 3).toNat 0)), []⟩, ⟨80, (.one (.d (.int .u8 (b.getD ((4 * (i : Int)) + 3).toNat 0)))), []⟩, ⟨81, (pI (b.getD ((4 * (i : Int)) + 3).toNat 0)), []⟩, ⟨82, (pI y9), []⟩, ⟨83, (.one (.rptr 7 [] i 0)), []⟩] p_6 p_6 ?_ ?_
  ·refine .cons (fun E A => A.mv 10 49) ?_
   refine .cons (fun E A => A.mv 1 50) ?_
   refine .cons (fun E A => A.mv 10 51) ?_
   refine .cons (fun E A => OpStep.plain rfl (Step.bd (r := .int .i64 (4 * (i : Int))) 52 rfl (A.g 51 rfl) (Bin.mul (a := 4) (b := (i : Int)) p_10))) ?_
   refine .cons (fun E A => OpStep.plain rfl (Step.index (e := 5) (z := 1) (i := (4 * (i : Int))) (t := 53) rfl rfl p_21 p_6 (A.g 50 rfl) rfl rfl (lt_ok rfl) (A.g 52 rfl) p_5 p_35)) ?_
   refine .cons (fun E A => OpStep.plain rfl (Step.load (e := (.int .u8 (b.getD (4 * (i : Int)).toNat 0))) (t := 54) rfl rfl p_21 p_6 (A.g 53 rfl) rfl)) ?_
   refine .cons (fun E A => OpStep.plain rfl (Step.conv (c := (b.getD (4 * (i : Int)).toNat 0)) (t := 55) rfl rfl p_21 p_6 p_6 (A.g 54 rfl) (wrap_ok p_5 p_5))) ?_
   refine .cons (fun E A => OpStep.plain rfl (Step.bd (r := .int .i64 y6) 56 (A.g 55 rfl) rfl (Bin.shl (k := .i64) (k' := .u64) (a := (b.getD (4 * (i : Int)).toNat 0)) (b := 24) p_5 (hy6_.symm)))) ?_
   refine .cons (fun E A => A.mv 1 57) ?_
   refine .cons (fun E A => A.mv 10 58) ?_
   refine .cons (fun E A => OpStep.plain rfl (Step.bd (r := .int .i64 (4 * (i : Int))) 59 rfl (A.g 58 rfl) (Bin.mul (a := 4) (b := (i : Int)) p_10))) ?_
   refine .cons (fun E A => OpStep.plain rfl (Step.bd (r := .int .i64 ((4 * (i : Int)) + 1)) 60 (A.g 59 rfl) rfl (Bin.add (a := (4 * (i : Int))) (b := 1) p_10))) ?_
   refine .cons (fun E A => OpStep.plain rfl (Step.index (e := 5) (z := 1) (i := ((4 * (i : Int)) + 1)) (t := 61) rfl rfl p_21 p_6 (A.g 57 rfl) rfl rfl (lt_ok rfl) (A.g 60 rfl) p_5 p_35)) ?_
   refine .cons (fun E A => OpStep.plain rfl (Step.load (e := (.int .u8 (b.getD ((4 * (i : Int)) + 1).toNat 0))) (t := 62) rfl rfl p_21 p_6 (A.g 61 rfl) rfl)) ?_
   refine .cons (fun E A => OpStep.plain rfl (Step.conv (c := (b.getD ((4 * (i : Int)) + 1).toNat 0)) (t := 63) rfl rfl p_21 p_6 p_6 (A.g 62 rfl) (wrap_ok p_5 p_5))) ?_
   refine .cons (fun E A => OpStep.plain rfl (Step.bd (r := .int .i64 y7) 64 (A.g 63 rfl) rfl (Bin.shl (k := .i64) (k' := .u64) (a := (b.getD ((4 * (i : Int)) + 1).toNat 0)) (b := 16) p_5 (hy7_.symm)))) ?_
   refine .cons (fun E A => OpStep.plain rfl (Step.bd (r := .int .i64 (bor y6 y7)) 65 (A.g 56 rfl) (A.g 64 rfl) (Bin.or (k := .i64) (a := y6) (b := y7) (rfl)))) ?_
   refine .cons (fun E A => A.mv 1 66) ?_
   refine .cons (fun E A => A.mv 10 67) ?_
   refine .cons (fun E A => OpStep.plain rfl (Step.bd (r := .int .i64 (4 * (i : Int))) 68 rfl (A.g 67 rfl) (Bin.mul (a := 4) (b := (i : Int)) p_10))) ?_
   refine .cons (fun E A => OpStep.plain rfl (Step.bd (r := .int .i64 ((4 * (i : Int)) + 2)) 69 (A.g 68 rfl) rfl (Bin.add (a := (4 * (i : Int))) (b := 2) p_10))) ?_
   refine .cons (fun E A => OpStep.plain rfl (Step.index (e := 5) (z := 1) (i := ((4 * (i : Int)) + 2)) (t := 70) rfl rfl p_21 p_6 (A.g 66 rfl) rfl rfl (lt_ok rfl) (A.g 69 rfl) p_5 p_35)) ?_
   refine .cons (fun E A => OpStep.plain rfl (Step.load (e := (.int .u8 (b.getD ((4 * (i : Int)) + 2).toNat 0))) (t := 71) rfl rfl p_21 p_6 (A.g 70 rfl) rfl)) ?_
   refine .cons (fun E A => OpStep.plain rfl (Step.conv (c := (b.getD ((4 * (i : Int)) + 2).toNat 0)) (t := 72) rfl rfl p_21 p_6 p_6 (A.g 71 rfl) (wrap_ok p_5 p_5))) ?_
   refine .cons (fun E A => OpStep.plain rfl (Step.bd (r := .int .i64 y8) 73 (A.g 72 rfl) rfl (Bin.shl (k := .i64) (k' := .u64) (a := (b.getD ((4 * (i : Int)) + 2).toNat 0)) (b := 8) p_5 (hy8_.symm)))) ?_
   refine .cons (fun E A => OpStep.plain rfl (Step.bd (r := .int .i64 (bor (bor y6 y7) y8)) 74 (A.g 65 rfl) (A.g 73 rfl) (Bin.or (k := .i64) (a := (bor y6 y7)) (b := y8) (rfl)))) ?_
   refine .cons (fun E A => A.mv 1 75) ?_
   refine .cons (fun E A => A.mv 10 76) ?_
   refine .cons (fun E A => OpStep.plain rfl (Step.bd (r := .int .i64 (4 * (i : Int))) 77 rfl (A.g 76 rfl) (Bin.mul (a := 4) (b := (i : Int)) p_10))) ?_
   refine .cons (fun E A => OpStep.plain rfl (Step.bd (r := .int .i64 ((4 * (i : Int)) + 3)) 78 (A.g 77 rfl) rfl (Bin.add (a := (4 * (i : Int))) (b := 3) p_10))) ?_
   refine .cons (fun E A => OpStep.plain rfl (Step.index (e := 5) (z := 1) (i := ((4 * (i : Int)) + 3)) (t := 79) rfl rfl p_21 p_6 (A.g 75 rfl) rfl rfl (lt_ok rfl) (A.g 78 rfl) p_5 p_35)) ?_
   refine .cons (fun E A => OpStep.plain rfl (Step.load (e := (.int .u8 (b.getD ((4 * (i : Int)) + 3).toNat 0))) (t := 80) rfl rfl p_21 p_6 (A.g 79 rfl) rfl)) ?_
   refine .cons (fun E A => OpStep.plain rfl (Step.conv (c := (b.getD ((4 * (i : Int)) + 3).toNat 0)) (t := 81) rfl rfl p_21 p_6 p_6 (A.g 80 rfl) (wrap_ok p_5 p_5))) ?_
   refine .cons (fun E A => OpStep.plain rfl (Step.bd (r := .int .i64 y9) 82 (A.g 74 rfl) (A.g 81 rfl) (Bin.or (k := .i64) (a := (bor (bor y6 y7) y8)) (b := (b.getD ((4 * (i : Int)) + 3).toNat 0)) (hy9_.symm)))) ?_
   refine .cons (fun E A => OpStep.plain rfl (Step.index_arr (d := (.ints .i64 (aI b i))) (e := 3) (n := 64) (z := 1) (i := (i : Int)) (t := 83) rfl rfl p_21 p_6 (A.g 7 rfl) p_98 (by first | exact hl_ | rfl) rfl (lt_ok rfl) (A.g 49 rfl) p_5 p_5)) ?_
   exact .nil _ _
  refine TL.c (Step.store_row (n := 1) (p := (pI y9)) (ps := [cI y9]) (es := [(.int .i64 y9)]) (ss := []) (d1 := (.ints .i64 ((aI b i).set i y9))) (d' := (.ints .i64 ((aI b i).set i y9))) rfl rfl p_6 rfl rfl rfl rfl rfl rfl (.val rfl .nil) p_104 (Putd.one rfl trivial rfl (by simp only [D.at_, D.size, List.length_set, upTo_length]; first | omega | (simp; omega) | (simp [w16_len, wN_len]; omega)) (lt_ok rfl)) rfl) ?_
  refine TL.nil (T.region ?_)
  refine TL.c (Step.bin (r := .int .i64 ((i : Int) + 1)) rfl rfl (lt_ok rfl) rfl rfl (Bin.add (a := (i : Int)) (b := 1) p_10)) ?_
  refine TL.rl [(46, (pI ((i : Int) + 1)))] [] ?_
  subst hy9_ hy8_ hy7_ hy6_
  refine ⟨i + 1, by omega, by first | omega | (dsimp only; omega), Env.le_mk ⟨rfl, rfl, rfl, rfl, rfl, ?_, trivial⟩ ⟨rfl, ?_, rfl, trivial⟩ trivial⟩ <;> exact p_84
 refine T.exit (T.seq ?_)
 refine T.sr [(11, (pI 16))] [] ?_
 refine T.block ?_
 refine T.loop (ι := Nat) (fun xx_ => { tm := [(0, (.one (.d (.ints .i64 h)))), (7, (.one (.rptr 7 [] 0 0))), (9, (.one (.rptr 9 [] 0 0))), (8, (.one (.row 1044 []))), (11, (pI (16 + (xx_ : Int))))], rows := [(1044, (3, (.ints .i64 shaK))), (7, (164, (.ints .i64 (wI b xx_)))), (9, (165, (.ints .i64 [0, 0, 0, 0, 0, 0, 0, 0])))], boxes := [] }) (fun xx_ => xx_ ≤ 48) (fun xx_ => 48 - xx_) 0 ?_ ?_ ?_
 · refine Env.le_mk ⟨rfl, rfl, rfl, rfl, ?_, trivial⟩ ⟨rfl, ?_, rfl, trivial⟩ trivial <;> exact p_70
 · exact Nat.zero_le _
 intro i hx
 try dsimp only at hx ⊢
 have hl_ := wI_len b hx
 have hW_ := wI_W h0_ i
 refine T.seq ?_
 refine T.sr [(86, (pB (decide ((16 + (i : Int)) < 64))))] [] ?_
 refine T.ci rfl (fun h10 => ?_) (fun h10 => ?_)
 ·refine T.skip (T.seq (T.block (T.seq ?_)))
  refine T.draw [⟨89, (pI (16 + (i : Int))), []⟩, ⟨90, (pI ((16 + (i : Int)) - 15)), []⟩, ⟨91, (.one (.rptr 7 [] ((16 + (i : Int)) - 15).toNat 0)), []⟩, ⟨92, (pI ((wI b i).getD ((16 + (i : Int)) - 15).toNat 0)), []⟩, ⟨93, (pI (16 + (i : Int))), []⟩, ⟨94, (pI ((16 + (i : Int)) - 2)), []⟩, ⟨95, (.one (.rptr 7 [] ((16 + (i : Int)) - 2).toNat 0)), []⟩, ⟨96, (pI ((wI b i).getD ((16 + (i : Int)) - 2).toNat 0)), []⟩, ⟨12, (pI ((wI b i).getD ((16 + (i : Int)) - 15).toNat 0)), []⟩, ⟨13, (pI ((wI b i).getD ((16 + (i : Int)) - 2).toNat 0)), []⟩] p_6 p_6 ?_ ?_
  ·refine .cons (fun E A => A.mv 11 89) ?_
   refine .cons (fun E A => OpStep.plain rfl (Step.bd (r := .int .i64 ((16 + (i : Int)) - 15)) 90 (A.g 89 rfl) rfl (Bin.sub (a := (16 + (i : Int))) (b := 15) p_10))) ?_
   refine .cons (fun E A => OpStep.plain rfl (Step.index_arr (d := (.ints .i64 (wI b i))) (e := 3) (n := 64) (z := 1) (i := ((16 + (i : Int)) - 15)) (t := 91) rfl rfl p_21 p_6 (A.g 7 rfl) p_98 (by first | exact hl_ | rfl) rfl (lt_ok rfl) (A.g 90 rfl) p_5 p_5)) ?_
   refine .cons (fun E A => OpStep.plain rfl (Step.load_row (c := cI ((wI b i).getD ((16 + (i : Int)) - 15).toNat 0)) (t := 92) rfl rfl p_21 p_6 (A.g 91 rfl) p_98 rfl)) ?_
   refine .cons (fun E A => A.mv 11 93) ?_
   refine .cons (fun E A => OpStep.plain rfl (Step.bd (r := .int .i64 ((16 + (i : Int)) - 2)) 94 (A.g 93 rfl) rfl (Bin.sub (a := (16 + (i : Int))) (b := 2) p_10))) ?_
   refine .cons (fun E A => OpStep.plain rfl (Step.index_arr (d := (.ints .i64 (wI b i))) (e := 3) (n := 64) (z := 1) (i := ((16 + (i : Int)) - 2)) (t := 95) rfl rfl p_21 p_6 (A.g 7 rfl) p_98 (by first | exact hl_ | rfl) rfl (lt_ok rfl) (A.g 94 rfl) p_5 p_5)) ?_
   refine .cons (fun E A => OpStep.plain rfl (Step.load_row (c := cI ((wI b i).getD ((16 + (i : Int)) - 2).toNat 0)) (t := 96) rfl rfl p_21 p_6 (A.g 95 rfl) p_98 rfl)) ?_
   refine .cons (fun E A => A.as 92 12) ?_
   refine .cons (fun E A => A.as 96 13) ?_
   exact .nil _ _
  refine TL.nil (T.sg ?_)
  refine TL.rx 1 [(97, (pI ((wI b i).getD ((16 + (i : Int)) - 15).toNat 0)))] [] ?_
  refine TL.c (Step.cz (ok_impl_TurnRight ((wI b i).getD ((16 + (i : Int)) - 15).toNat 0) 7 p_92 p_103)) ?_
  refine TL.rx 1 [(99, (pI ((wI b i).getD ((16 + (i : Int)) - 15).toNat 0)))] [] ?_
  refine TL.c (Step.cz (ok_impl_TurnRight ((wI b i).getD ((16 + (i : Int)) - 15).toNat 0) 18 p_92 p_103)) ?_
  obtain ⟨y11, hy11_⟩ : ∃ y_, y_ = bxor (turnW ((wI b i).getD ((16 + (i : Int)) - 15).toNat 0) 7) (turnW ((wI b i).getD ((16 + (i : Int)) - 15).toNat 0) 18) := ⟨_, rfl⟩
  refine TL.c (Step.bin (r := .int .i64 y11) rfl rfl (lt_ok rfl) rfl rfl (Bin.xor (k := .i64) (a := (turnW ((wI b i).getD ((16 + (i : Int)) - 15).toNat 0) 7)) (b := (turnW ((wI b i).getD ((16 + (i : Int)) - 15).toNat 0) 18)) (hy11_.symm))) ?_
  refine TL.rx 1 [(102, (pI ((wI b i).getD ((16 + (i : Int)) - 15).toNat 0)))] [] ?_
  obtain ⟨y12, hy12_⟩ : ∃ y_, y_ = bshr ((wI b i).getD ((16 + (i : Int)) - 15).toNat 0) 3 := ⟨_, rfl⟩
  refine TL.c (Step.bin (r := .int .i64 y12) rfl rfl (lt_ok rfl) rfl rfl (Bin.shr (k := .i64) (k' := .u64) (a := ((wI b i).getD ((16 + (i : Int)) - 15).toNat 0)) (b := 3) p_5 (hy12_.symm))) ?_
  refine TL.c (Step.bin (r := .int .i64 (bxor y11 y12)) rfl rfl (lt_ok rfl) rfl rfl (Bin.xor (k := .i64) (a := y11) (b := y12) (rfl))) ?_
  refine TL.rl [(14, (pI (bxor y11 y12)))] [] ?_
  refine T.sg ?_
  refine TL.rx 1 [(105, (pI ((wI b i).getD ((16 + (i : Int)) - 2).toNat 0)))] [] ?_
  refine TL.c (Step.cz (ok_impl_TurnRight ((wI b i).getD ((16 + (i : Int)) - 2).toNat 0) 17 p_92 p_103)) ?_
  refine TL.rx 1 [(107, (pI ((wI b i).getD ((16 + (i : Int)) - 2).toNat 0)))] [] ?_
  refine TL.c (Step.cz (ok_impl_TurnRight ((wI b i).getD ((16 + (i : Int)) - 2).toNat 0) 19 p_92 p_103)) ?_
  obtain ⟨y13, hy13_⟩ : ∃ y_, y_ = bxor (turnW ((wI b i).getD ((16 + (i : Int)) - 2).toNat 0) 17) (turnW ((wI b i).getD ((16 + (i : Int)) - 2).toNat 0) 19) := ⟨_, rfl⟩
  refine TL.c (Step.bin (r := .int .i64 y13) rfl rfl (lt_ok rfl) rfl rfl (Bin.xor (k := .i64) (a := (turnW ((wI b i).getD ((16 + (i : Int)) - 2).toNat 0) 17)) (b := (turnW ((wI b i).getD ((16 + (i : Int)) - 2).toNat 0) 19)) (hy13_.symm))) ?_
  refine TL.rx 1 [(110, (pI ((wI b i).getD ((16 + (i : Int)) - 2).toNat 0)))] [] ?_
  obtain ⟨y14, hy14_⟩ : ∃ y_, y_ = bshr ((wI b i).getD ((16 + (i : Int)) - 2).toNat 0) 10 := ⟨_, rfl⟩
  refine TL.c (Step.bin (r := .int .i64 y14) rfl rfl (lt_ok rfl) rfl rfl (Bin.shr (k := .i64) (k' := .u64) (a := ((wI b i).getD ((16 + (i : Int)) - 2).toNat 0)) (b := 10) p_5 (hy14_.symm))) ?_
  refine TL.c (Step.bin (r := .int .i64 (bxor y13 y14)) rfl rfl (lt_ok rfl) rfl rfl (Bin.xor (k := .i64) (a := y13) (b := y14) (rfl))) ?_
  refine TL.rl [(15, (pI (bxor y13 y14)))] [] ?_
  obtain ⟨y15, hy15_⟩ : ∃ y_, y_ = wadd ((wI b i).getD ((16 + (i : Int)) - 16).toNat 0) (bxor y11 y12) := ⟨_, rfl⟩
  obtain ⟨y16, hy16_⟩ : ∃ y_, y_ = wadd y15 ((wI b i).getD ((16 + (i : Int)) - 7).toNat 0) := ⟨_, rfl⟩
  obtain ⟨y17, hy17_⟩ : ∃ y_, y_ = band (wadd y16 (bxor y13 y14)) 4294967295 := ⟨_, rfl⟩
  refine T.draw [⟨113, (pI (16 + (i : Int))), []⟩, ⟨114, (pI (16 + (i : Int))), []⟩, ⟨115, (pI ((16 + (i : Int)) - 16)), []⟩, ⟨116, (.one (.rptr 7 [] ((16 + (i : Int)) - 16).toNat 0)), []⟩, ⟨117, (pI ((wI b i).getD ((16 + (i : Int)) - 16).toNat 0)), []⟩, ⟨118, (pI (bxor y11 y12)), []⟩, ⟨119, (pI y15), []⟩, ⟨120, (pI (16 + (i : Int))), []⟩, ⟨121, (pI ((16 + (i : Int)) - 7)), []⟩, ⟨122, (.one (.rptr 7 [] ((16 + (i : Int)) - 7).toNat 0)), []⟩, ⟨123, (pI ((wI b i).getD ((16 + (i : Int)) - 7).toNat 0)), []⟩, ⟨124, (pI y16), []⟩, ⟨125, (pI (bxor y13 y14)), []⟩, ⟨126, (pI (wadd y16 (bxor y13 y14))), []⟩, ⟨127, (pI y17), []⟩, ⟨128, (.one (.rptr 7 [] (16 + (i : Int)).toNat 0)), []⟩] p_6 p_6 ?_ ?_
  ·refine .cons (fun E A => A.mv 11 113) ?_
   refine .cons (fun E A => A.mv 11 114) ?_
   refine .cons (fun E A => OpStep.plain rfl (Step.bd (r := .int .i64 ((16 + (i : Int)) - 16)) 115 (A.g 114 rfl) rfl (Bin.sub (a := (16 + (i : Int))) (b := 16) p_10))) ?_
   refine .cons (fun E A => OpStep.plain rfl (Step.index_arr (d := (.ints .i64 (wI b i))) (e := 3) (n := 64) (z := 1) (i := ((16 + (i : Int)) - 16)) (t := 116) rfl rfl p_21 p_6 (A.g 7 rfl) p_98 (by first | exact hl_ | rfl) rfl (lt_ok rfl) (A.g 115 rfl) p_5 p_5)) ?_
   refine .cons (fun E A => OpStep.plain rfl (Step.load_row (c := cI ((wI b i).getD ((16 + (i : Int)) - 16).toNat 0)) (t := 117) rfl rfl p_21 p_6 (A.g 116 rfl) p_98 rfl)) ?_
   refine .cons (fun E A => A.mv 14 118) ?_
   refine .cons (fun E A => OpStep.plain rfl (Step.bd (r := .int .i64 y15) 119 (A.g 117 rfl) (A.g 118 rfl) (Bin.add (k := .i64) (a := ((wI b i).getD ((16 + (i : Int)) - 16).toNat 0)) (b := (bxor y11 y12)) (hy15_.symm)))) ?_
   refine .cons (fun E A => A.mv 11 120) ?_
   refine .cons (fun E A => OpStep.plain rfl (Step.bd (r := .int .i64 ((16 + (i : Int)) - 7)) 121 (A.g 120 rfl) rfl (Bin.sub (a := (16 + (i : Int))) (b := 7) p_10))) ?_
   refine .cons (fun E A => OpStep.plain rfl (Step.index_arr (d := (.ints .i64 (wI b i))) (e := 3) (n := 64) (z := 1) (i := ((16 + (i : Int)) - 7)) (t := 122) rfl rfl p_21 p_6 (A.g 7 rfl) p_98 (by first | exact hl_ | rfl) rfl (lt_ok rfl) (A.g 121 rfl) p_5 p_5)) ?_
   refine .cons (fun E A => OpStep.plain rfl (Step.load_row (c := cI ((wI b i).getD ((16 + (i : Int)) - 7).toNat 0)) (t := 123) rfl rfl p_21 p_6 (A.g 122 rfl) p_98 rfl)) ?_
   refine .cons (fun E A => OpStep.plain rfl (Step.bd (r := .int .i64 y16) 124 (A.g 119 rfl) (A.g 123 rfl) (Bin.add (k := .i64) (a := y15) (b := ((wI b i).getD ((16 + (i : Int)) - 7).toNat 0)) (hy16_.symm)))) ?_
   refine .cons (fun E A => A.mv 15 125) ?_
   refine .cons (fun E A => OpStep.plain rfl (Step.bd (r := .int .i64 (wadd y16 (bxor y13 y14))) 126 (A.g 124 rfl) (A.g 125 rfl) (Bin.add (k := .i64) (a := y16) (b := (bxor y13 y14)) (rfl)))) ?_
   refine .cons (fun E A => OpStep.plain rfl (Step.bd (r := .int .i64 y17) 127 (A.g 126 rfl) rfl (Bin.and (k := .i64) (a := (wadd y16 (bxor y13 y14))) (b := 4294967295) (hy17_.symm)))) ?_
   refine .cons (fun E A => OpStep.plain rfl (Step.index_arr (d := (.ints .i64 (wI b i))) (e := 3) (n := 64) (z := 1) (i := (16 + (i : Int))) (t := 128) rfl rfl p_21 p_6 (A.g 7 rfl) p_98 (by first | exact hl_ | rfl) rfl (lt_ok rfl) (A.g 113 rfl) p_5 p_5)) ?_
   exact .nil _ _
  refine TL.c (Step.store_row (n := 1) (p := (pI y17)) (ps := [cI y17]) (es := [(.int .i64 y17)]) (ss := []) (d1 := (.ints .i64 ((wI b i).set (16 + (i : Int)).toNat y17))) (d' := (.ints .i64 ((wI b i).set (16 + (i : Int)).toNat y17))) rfl rfl p_6 rfl rfl rfl rfl rfl rfl (.val rfl .nil) p_104 (Putd.one rfl trivial rfl (by simp only [D.at_, D.size, List.length_set, upTo_length]; first | omega | (simp; omega) | (simp [w16_len, wN_len]; omega)) (lt_ok rfl)) rfl) ?_
  refine TL.nil (T.region ?_)
  refine TL.rx 1 [(87, (pI (16 + (i : Int))))] [] ?_
  refine TL.c (Step.bin (r := .int .i64 ((16 + (i : Int)) + 1)) rfl rfl (lt_ok rfl) rfl rfl (Bin.add (a := (16 + (i : Int))) (b := 1) p_10)) ?_
  refine TL.rl [(11, (pI ((16 + (i : Int)) + 1)))] [] ?_
  subst hy17_ hy16_ hy15_ hy14_ hy13_ hy12_ hy11_
  refine ⟨i + 1, by omega, by first | omega | (dsimp only; omega), Env.le_mk ⟨rfl, rfl, rfl, rfl, ?_, trivial⟩ ⟨rfl, ?_, rfl, trivial⟩ trivial⟩ <;> exact p_70
 refine T.exit (T.sg ?_)
 refine TL.copyArr (e := 3) (n := 8) (t1 := 129) (t2 := 130) (t3 := 131) (r := 9) (xs := [0, 0, 0, 0, 0, 0, 0, 0]) (ys := h) rfl rfl rfl rfl rfl (lt_ok rfl) rfl rfl (lt_ok rfl) rfl rfl (lt_ok rfl) p_6 p_6 (by decide) rfl rfl p_65 rfl p_5 (by decide) ?_
 refine TL.nil (T.seq ?_)
 refine T.sr [(132, (pI 0))] [] ?_
 refine T.block ?_
 refine T.loop (ι := Nat) (fun xx_ => { tm := [(0, (.one (.d (.ints .i64 h)))), (7, (.one (.rptr 7 [] 0 0))), (9, (.one (.rptr 9 [] 0 0))), (8, (.one (.row 1044 []))), (132, (pI (xx_ : Int)))], rows := [(1044, (3, (.ints .i64 shaK))), (7, (164, (.ints .i64 (wI b 48)))), (9, (165, (.ints .i64 (vN h (wN b 48) xx_))))], boxes := [] }) (fun xx_ => xx_ ≤ 64) (fun xx_ => 64 - xx_) 0 ?_ ?_ ?_
 · refine Env.le_mk ⟨rfl, rfl, rfl, rfl, ?_, trivial⟩ ⟨rfl, ?_, ?_, trivial⟩ trivial <;> exact p_69
 · exact Nat.zero_le _
 intro i hx
 try dsimp only at hx ⊢
 have hl_ := wI_len b (i := 48) p_4
 have hvl_ := vN_len (h := h) (w := wN b 48) p_4 i
 have hkl_ : shaK.length = 64 := rfl
 have hV_ := vN_W (h := h) (w := wN b 48) hwo_ i
 have hwq_ : ∀ q, (wI b 48).getD q 0 = (wN b 48).getD q 0 := fun q => by rw [wI_all]
 refine T.sr [(133, (pB (decide ((i : Int) < 64))))] [] ?_
 refine T.seq ?_
 refine T.ci rfl (fun h18 => ?_) (fun h18 => ?_)
 ·refine T.skip (T.seq (T.block ?_))
  refine T.sr [(16, (pI (i : Int)))] [] ?_
  refine T.seq ?_
  refine T.draw [⟨135, (.one (.rptr 9 [] 4 0)), []⟩, ⟨136, (pI ((vN h (wN b 48) i).getD 4 0)), []⟩, ⟨137, (.one (.rptr 9 [] 0 0)), []⟩, ⟨138, (pI ((vN h (wN b 48) i).getD 0 0)), []⟩, ⟨17, (pI ((vN h (wN b 48) i).getD 4 0)), []⟩, ⟨18, (pI ((vN h (wN b 48) i).getD 0 0)), []⟩] p_6 p_6 ?_ ?_
  ·refine .cons (fun E A => OpStep.plain rfl (Step.index_arr (d := (.ints .i64 (vN h (wN b 48) i))) (e := 3) (n := 8) (z := 1) (i := 4) (t := 135) rfl rfl p_21 p_6 (A.g 9 rfl) p_111 p_65 rfl (lt_ok rfl) rfl p_5 p_5)) ?_
   refine .cons (fun E A => OpStep.plain rfl (Step.load_row (c := cI ((vN h (wN b 48) i).getD 4 0)) (t := 136) rfl rfl p_21 p_6 (A.g 135 rfl) p_111 rfl)) ?_
   refine .cons (fun E A => OpStep.plain rfl (Step.index_arr (d := (.ints .i64 (vN h (wN b 48) i))) (e := 3) (n := 8) (z := 1) (i := 0) (t := 137) rfl rfl p_21 p_6 (A.g 9 rfl) p_111 p_65 rfl (lt_ok rfl) rfl p_5 p_5)) ?_
   refine .cons (fun E A => OpStep.plain rfl (Step.load_row (c := cI ((vN h (wN b 48) i).getD 0 0)) (t := 138) rfl rfl p_21 p_6 (A.g 137 rfl) p_111 rfl)) ?_
   refine .cons (fun E A => A.as 136 17) ?_
   refine .cons (fun E A => A.as 138 18) ?_
   exact .nil _ _
  refine TL.nil (T.sg ?_)
  refine TL.rx 1 [(139, (pI ((vN h (wN b 48) i).getD 4 0)))] [] ?_
  refine TL.c (Step.index_arr (d := (.ints .i64 (vN h (wN b 48) i))) (e := 3) (n := 8) (z := 1) (i := 5) rfl rfl (lt_ok rfl) p_6 rfl rfl p_65 rfl (lt_ok rfl) rfl p_5 p_5) ?_
  refine TL.c (Step.load_row (c := cI ((vN h (wN b 48) i).getD 5 0)) rfl rfl (lt_ok rfl) p_6 rfl rfl rfl) ?_
  obtain ⟨y19, hy19_⟩ : ∃ y_, y_ = band ((vN h (wN b 48) i).getD 4 0) ((vN h (wN b 48) i).getD 5 0) := ⟨_, rfl⟩
  refine TL.c (Step.bin (r := .int .i64 y19) rfl rfl (lt_ok rfl) rfl rfl (Bin.and (k := .i64) (a := ((vN h (wN b 48) i).getD 4 0)) (b := ((vN h (wN b 48) i).getD 5 0)) (hy19_.symm))) ?_
  refine TL.rx 1 [(143, (pI ((vN h (wN b 48) i).getD 4 0)))] [] ?_
  obtain ⟨y20, hy20_⟩ : ∃ y_, y_ = bxor ((vN h (wN b 48) i).getD 4 0) 4294967295 := ⟨_, rfl⟩
  refine TL.c (Step.bin (r := .int .i64 y20) rfl rfl (lt_ok rfl) rfl rfl (Bin.xor (k := .i64) (a := ((vN h (wN b 48) i).getD 4 0)) (b := 4294967295) (hy20_.symm))) ?_
  refine TL.c (Step.index_arr (d := (.ints .i64 (vN h (wN b 48) i))) (e := 3) (n := 8) (z := 1) (i := 6) rfl rfl (lt_ok rfl) p_6 rfl rfl p_65 rfl (lt_ok rfl) rfl p_5 p_5) ?_
  refine TL.c (Step.load_row (c := cI ((vN h (wN b 48) i).getD 6 0)) rfl rfl (lt_ok rfl) p_6 rfl rfl rfl) ?_
  obtain ⟨y21, hy21_⟩ : ∃ y_, y_ = band y20 ((vN h (wN b 48) i).getD 6 0) := ⟨_, rfl⟩
  refine TL.c (Step.bin (r := .int .i64 y21) rfl rfl (lt_ok rfl) rfl rfl (Bin.and (k := .i64) (a := y20) (b := ((vN h (wN b 48) i).getD 6 0)) (hy21_.symm))) ?_
  refine TL.c (Step.bin (r := .int .i64 (bor y19 y21)) rfl rfl (lt_ok rfl) rfl rfl (Bin.or (k := .i64) (a := y19) (b := y21) (rfl))) ?_
  refine TL.rl [(19, (pI (bor y19 y21)))] [] ?_
  refine T.sg ?_
  refine TL.rx 1 [(149, (pI ((vN h (wN b 48) i).getD 0 0)))] [] ?_
  refine TL.c (Step.index_arr (d := (.ints .i64 (vN h (wN b 48) i))) (e := 3) (n := 8) (z := 1) (i := 1) rfl rfl (lt_ok rfl) p_6 rfl rfl p_65 rfl (lt_ok rfl) rfl p_5 p_5) ?_
  refine TL.c (Step.load_row (c := cI ((vN h (wN b 48) i).getD 1 0)) rfl rfl (lt_ok rfl) p_6 rfl rfl rfl) ?_
  obtain ⟨y22, hy22_⟩ : ∃ y_, y_ = band ((vN h (wN b 48) i).getD 0 0) ((vN h (wN b 48) i).getD 1 0) := ⟨_, rfl⟩
  refine TL.c (Step.bin (r := .int .i64 y22) rfl rfl (lt_ok rfl) rfl rfl (Bin.and (k := .i64) (a := ((vN h (wN b 48) i).getD 0 0)) (b := ((vN h (wN b 48) i).getD 1 0)) (hy22_.symm))) ?_
  refine TL.rx 1 [(153, (pI ((vN h (wN b 48) i).getD 0 0)))] [] ?_
  refine TL.c (Step.index_arr (d := (.ints .i64 (vN h (wN b 48) i))) (e := 3) (n := 8) (z := 1) (i := 2) rfl rfl (lt_ok rfl) p_6 rfl rfl p_65 rfl (lt_ok rfl) rfl p_5 p_5) ?_
  refine TL.c (Step.load_row (c := cI ((vN h (wN b 48) i).getD 2 0)) rfl rfl (lt_ok rfl) p_6 rfl rfl rfl) ?_
  obtain ⟨y23, hy23_⟩ : ∃ y_, y_ = band ((vN h (wN b 48) i).getD 0 0) ((vN h (wN b 48) i).getD 2 0) := ⟨_, rfl⟩
  refine TL.c (Step.bin (r := .int .i64 y23) rfl rfl (lt_ok rfl) rfl rfl (Bin.and (k := .i64) (a := ((vN h (wN b 48) i).getD 0 0)) (b := ((vN h (wN b 48) i).getD 2 0)) (hy23_.symm))) ?_
  refine TL.c (Step.bin (r := .int .i64 (bor y22 y23)) rfl rfl (lt_ok rfl) rfl rfl (Bin.or (k := .i64) (a := y22) (b := y23) (rfl))) ?_
  refine TL.c (Step.index_arr (d := (.ints .i64 (vN h (wN b 48) i))) (e := 3) (n := 8) (z := 1) (i := 1) rfl rfl (lt_ok rfl) p_6 rfl rfl p_65 rfl (lt_ok rfl) rfl p_5 p_5) ?_
  refine TL.c (Step.load_row (c := cI ((vN h (wN b 48) i).getD 1 0)) rfl rfl (lt_ok rfl) p_6 rfl rfl rfl) ?_
  refine TL.c (Step.index_arr (d := (.ints .i64 (vN h (wN b 48) i))) (e := 3) (n := 8) (z := 1) (i := 2) rfl rfl (lt_ok rfl) p_6 rfl rfl p_65 rfl (lt_ok rfl) rfl p_5 p_5) ?_
  refine TL.c (Step.load_row (c := cI ((vN h (wN b 48) i).getD 2 0)) rfl rfl (lt_ok rfl) p_6 rfl rfl rfl) ?_
  obtain ⟨y24, hy24_⟩ : ∃ y_, y_ = band ((vN h (wN b 48) i).getD 1 0) ((vN h (wN b 48) i).getD 2 0) := ⟨_, rfl⟩
  refine TL.c (Step.bin (r := .int .i64 y24) rfl rfl (lt_ok rfl) rfl rfl (Bin.and (k := .i64) (a := ((vN h (wN b 48) i).getD 1 0)) (b := ((vN h (wN b 48) i).getD 2 0)) (hy24_.symm))) ?_
  refine TL.c (Step.bin (r := .int .i64 (bor (bor y22 y23) y24)) rfl rfl (lt_ok rfl) rfl rfl (Bin.or (k := .i64) (a := (bor y22 y23)) (b := y24) (rfl))) ?_
  refine TL.rl [(20, (pI (bor (bor y22 y23) y24)))] [] ?_
  refine T.seq ?_
  obtain ⟨y25, hy25_⟩ : ∃ y_, y_ = bxor (turnW ((vN h (wN b 48) i).getD 4 0) 6) (turnW ((vN h (wN b 48) i).getD 4 0) 11) := ⟨_, rfl⟩
  obtain ⟨y26, hy26_⟩ : ∃ y_, y_ = bxor y25 (turnW ((vN h (wN b 48) i).getD 4 0) 25) := ⟨_, rfl⟩
  obtain ⟨y27, hy27_⟩ : ∃ y_, y_ = wadd ((vN h (wN b 48) i).getD 7 0) y26 := ⟨_, rfl⟩
  obtain ⟨y28, hy28_⟩ : ∃ y_, y_ = wadd (wadd y27 (bor y19 y21)) (shaK.getD i 0) := ⟨_, rfl⟩
  obtain ⟨y29, hy29_⟩ : ∃ y_, y_ = wadd y28 ((wI b 48).getD i 0) := ⟨_, rfl⟩
  refine T.draw [⟨164, (.one (.rptr 9 [] 7 0)), []⟩, ⟨165, (pI ((vN h (wN b 48) i).getD 7 0)), []⟩, ⟨166, (pI ((vN h (wN b 48) i).getD 4 0)), []⟩, ⟨167, (pI (turnW ((vN h (wN b 48) i).getD 4 0) 6)), []⟩, ⟨168, (pI ((vN h (wN b 48) i).getD 4 0)), []⟩, ⟨169, (pI (turnW ((vN h (wN b 48) i).getD 4 0) 11)), []⟩, ⟨170, (pI y25), []⟩, ⟨171, (pI ((vN h (wN b 48) i).getD 4 0)), []⟩, ⟨172, (pI (turnW ((vN h (wN b 48) i).getD 4 0) 25)), []⟩, ⟨173, (pI y26), []⟩, ⟨174, (pI y27), []⟩, ⟨175, (pI (bor y19 y21)), []⟩, ⟨176, (pI (wadd y27 (bor y19 y21))), []⟩, ⟨177, (.one (.row 1044 [])), []⟩, ⟨178, (pI (i : Int)), []⟩, ⟨179, (.one (.rptr 1044 [] i 0)), []⟩, ⟨180, (pI (shaK.getD i 0)), []⟩, ⟨181, (pI y28), []⟩, ⟨182, (pI (i : Int)), []⟩, ⟨183, (.one (.rptr 7 [] i 0)), []⟩, ⟨184, (pI ((wI b 48).getD i 0)), []⟩, ⟨185, (pI y29), []⟩, ⟨21, (pI y29), []⟩] p_6 p_6 ?_ ?_
  ·refine .cons (fun E A => OpStep.plain rfl (Step.index_arr (d := (.ints .i64 (vN h (wN b 48) i))) (e := 3) (n := 8) (z := 1) (i := 7) (t := 164) rfl rfl p_21 p_6 (A.g 9 rfl) p_111 p_65 rfl (lt_ok rfl) rfl p_5 p_5)) ?_
   refine .cons (fun E A => OpStep.plain rfl (Step.load_row (c := cI ((vN h (wN b 48) i).getD 7 0)) (t := 165) rfl rfl p_21 p_6 (A.g 164 rfl) p_111 rfl)) ?_
   refine .cons (fun E A => A.mv 17 166) ?_
   refine .cons (fun E A => OpStep.plain rfl (Step.cd (xs := [.tmp 166, .const (.int .i64 6)]) (ps := [(pI ((vN h (wN b 48) i).getD 4 0)), (pI 6)]) (g := .func 160) false 167 (evs_cons (A.g 166 rfl) (evs_cons rfl (rfl))) (.cons (.one (.d _)) (.cons (.one (.d _)) .nil)) (ok_impl_TurnRight ((vN h (wN b 48) i).getD 4 0) 6 p_92 p_103) (At.freshRows A rfl))) ?_
   refine .cons (fun E A => A.mv 17 168) ?_
   refine .cons (fun E A => OpStep.plain rfl (Step.cd (xs := [.tmp 168, .const (.int .i64 11)]) (ps := [(pI ((vN h (wN b 48) i).getD 4 0)), (pI 11)]) (g := .func 160) false 169 (evs_cons (A.g 168 rfl) (evs_cons rfl (rfl))) (.cons (.one (.d _)) (.cons (.one (.d _)) .nil)) (ok_impl_TurnRight ((vN h (wN b 48) i).getD 4 0) 11 p_92 p_103) (At.freshRows A rfl))) ?_
   refine .cons (fun E A => OpStep.plain rfl (Step.bd (r := .int .i64 y25) 170 (A.g 167 rfl) (A.g 169 rfl) (Bin.xor (k := .i64) (a := (turnW ((vN h (wN b 48) i).getD 4 0) 6)) (b := (turnW ((vN h (wN b 48) i).getD 4 0) 11)) (hy25_.symm)))) ?_
   refine .cons (fun E A => A.mv 17 171) ?_
   refine .cons (fun E A => OpStep.plain rfl (Step.cd (xs := [.tmp 171, .const (.int .i64 25)]) (ps := [(pI ((vN h (wN b 48) i).getD 4 0)), (pI 25)]) (g := .func 160) false 172 (evs_cons (A.g 171 rfl) (evs_cons rfl (rfl))) (.cons (.one (.d _)) (.cons (.one (.d _)) .nil)) (ok_impl_TurnRight ((vN h (wN b 48) i).getD 4 0) 25 p_92 p_103) (At.freshRows A rfl))) ?_
   refine .cons (fun E A => OpStep.plain rfl (Step.bd (r := .int .i64 y26) 173 (A.g 170 rfl) (A.g 172 rfl) (Bin.xor (k := .i64) (a := y25) (b := (turnW ((vN h (wN b 48) i).getD 4 0) 25)) (hy26_.symm)))) ?_
   refine .cons (fun E A => OpStep.plain rfl (Step.bd (r := .int .i64 y27) 174 (A.g 165 rfl) (A.g 173 rfl) (Bin.add (k := .i64) (a := ((vN h (wN b 48) i).getD 7 0)) (b := y26) (hy27_.symm)))) ?_
   refine .cons (fun E A => A.mv 19 175) ?_
   refine .cons (fun E A => OpStep.plain rfl (Step.bd (r := .int .i64 (wadd y27 (bor y19 y21))) 176 (A.g 174 rfl) (A.g 175 rfl) (Bin.add (k := .i64) (a := y27) (b := (bor y19 y21)) (rfl)))) ?_
   refine .cons (fun E A => A.mv 8 177) ?_
   refine .cons (fun E A => A.mv 16 178) ?_
   refine .cons (fun E A => OpStep.plain rfl (Step.index_row (e := 3) (z := 1) (i := (i : Int)) (t := 179) rfl rfl p_21 p_6 (A.g 177 rfl) (by exact (A.row 1044 (by kernel_rfl)).trans rfl) rfl rfl (lt_ok rfl) (A.g 178 rfl) p_5 p_76)) ?_
   refine .cons (fun E A => OpStep.plain rfl (Step.load_row (c := cI (shaK.getD i 0)) (t := 180) rfl rfl p_21 p_6 (A.g 179 rfl) (by exact (A.row 1044 (by kernel_rfl)).trans rfl) rfl)) ?_
   refine .cons (fun E A => OpStep.plain rfl (Step.bd (r := .int .i64 y28) 181 (A.g 176 rfl) (A.g 180 rfl) (Bin.add (k := .i64) (a := (wadd y27 (bor y19 y21))) (b := (shaK.getD i 0)) (hy28_.symm)))) ?_
   refine .cons (fun E A => A.mv 16 182) ?_
   refine .cons (fun E A => OpStep.plain rfl (Step.index_arr (d := (.ints .i64 (wI b 48))) (e := 3) (n := 64) (z := 1) (i := (i : Int)) (t := 183) rfl rfl p_21 p_6 (A.g 7 rfl) p_98 (by first | exact hl_ | rfl) rfl (lt_ok rfl) (A.g 182 rfl) p_5 p_5)) ?_
   refine .cons (fun E A => OpStep.plain rfl (Step.load_row (c := cI ((wI b 48).getD i 0)) (t := 184) rfl rfl p_21 p_6 (A.g 183 rfl) p_98 rfl)) ?_
   refine .cons (fun E A => OpStep.plain rfl (Step.bd (r := .int .i64 y29) 185 (A.g 181 rfl) (A.g 184 rfl) (Bin.add (k := .i64) (a := y28) (b := ((wI b 48).getD i 0)) (hy29_.symm)))) ?_
   refine .cons (fun E A => A.as 185 21) ?_
   exact .nil _ _
  refine TL.nil (T.sg ?_)
  refine TL.rx 1 [(186, (pI ((vN h (wN b 48) i).getD 0 0)))] [] ?_
  refine TL.c (Step.cz (ok_impl_TurnRight ((vN h (wN b 48) i).getD 0 0) 2 p_92 p_103)) ?_
  refine TL.rx 1 [(188, (pI ((vN h (wN b 48) i).getD 0 0)))] [] ?_
  refine TL.c (Step.cz (ok_impl_TurnRight ((vN h (wN b 48) i).getD 0 0) 13 p_92 p_103)) ?_
  obtain ⟨y30, hy30_⟩ : ∃ y_, y_ = bxor (turnW ((vN h (wN b 48) i).getD 0 0) 2) (turnW ((vN h (wN b 48) i).getD 0 0) 13) := ⟨_, rfl⟩
  refine TL.c (Step.bin (r := .int .i64 y30) rfl rfl (lt_ok rfl) rfl rfl (Bin.xor (k := .i64) (a := (turnW ((vN h (wN b 48) i).getD 0 0) 2)) (b := (turnW ((vN h (wN b 48) i).getD 0 0) 13)) (hy30_.symm))) ?_
  refine TL.rx 1 [(191, (pI ((vN h (wN b 48) i).getD 0 0)))] [] ?_
  refine TL.c (Step.cz (ok_impl_TurnRight ((vN h (wN b 48) i).getD 0 0) 22 p_92 p_103)) ?_
  obtain ⟨y31, hy31_⟩ : ∃ y_, y_ = bxor y30 (turnW ((vN h (wN b 48) i).getD 0 0) 22) := ⟨_, rfl⟩
  refine TL.c (Step.bin (r := .int .i64 y31) rfl rfl (lt_ok rfl) rfl rfl (Bin.xor (k := .i64) (a := y30) (b := (turnW ((vN h (wN b 48) i).getD 0 0) 22)) (hy31_.symm))) ?_
  refine TL.rx 1 [(194, (pI (bor (bor y22 y23) y24)))] [] ?_
  obtain ⟨y32, hy32_⟩ : ∃ y_, y_ = wadd y31 (bor (bor y22 y23) y24) := ⟨_, rfl⟩
  refine TL.c (Step.bin (r := .int .i64 y32) rfl rfl (lt_ok rfl) rfl rfl (Bin.add (k := .i64) (a := y31) (b := (bor (bor y22 y23) y24)) (hy32_.symm))) ?_
  refine TL.rl [(22, (pI y32))] [] ?_
  refine T.wk [(0, (.one (.d (.ints .i64 h)))), (7, (.one (.rptr 7 [] 0 0))), (9, (.one (.rptr 9 [] 0 0))), (8, (.one (.row 1044 []))), (132, (pI (i : Int))), (17, (pI ((vN h (wN b 48) i).getD 4 0))), (18, (pI ((vN h (wN b 48) i).getD 0 0))), (21, (pI y29)), (22, (pI y32))] [(1044, (3, (.ints .i64 shaK))), (7, (164, (.ints .i64 (wI b 48)))), (9, (165, (.ints .i64 (vN h (wN b 48) i))))] [] ?_
  refine T.region ?_
  refine TL.rx 2 [(196, (pI y29)), (197, (pI y32))] [] ?_
  refine TL.c (Step.bin (r := .int .i64 (wadd y29 y32)) rfl rfl (lt_ok rfl) rfl rfl (Bin.add (k := .i64) (a := y29) (b := y32) (rfl))) ?_
  obtain ⟨y33, hy33_⟩ : ∃ y_, y_ = band (wadd y29 y32) 4294967295 := ⟨_, rfl⟩
  refine TL.c (Step.bin (r := .int .i64 y33) rfl rfl (lt_ok rfl) rfl rfl (Bin.and (k := .i64) (a := (wadd y29 y32)) (b := 4294967295) (hy33_.symm))) ?_
  refine TL.rx 1 [(200, (pI ((vN h (wN b 48) i).getD 0 0)))] [] ?_
  refine TL.c (Step.index_arr (d := (.ints .i64 (vN h (wN b 48) i))) (e := 3) (n := 8) (z := 1) (i := 1) rfl rfl (lt_ok rfl) p_6 rfl rfl p_65 rfl (lt_ok rfl) rfl p_5 p_5) ?_
  refine TL.c (Step.load_row (c := cI ((vN h (wN b 48) i).getD 1 0)) rfl rfl (lt_ok rfl) p_6 rfl rfl rfl) ?_
  refine TL.c (Step.index_arr (d := (.ints .i64 (vN h (wN b 48) i))) (e := 3) (n := 8) (z := 1) (i := 2) rfl rfl (lt_ok rfl) p_6 rfl rfl p_65 rfl (lt_ok rfl) rfl p_5 p_5) ?_
  refine TL.c (Step.load_row (c := cI ((vN h (wN b 48) i).getD 2 0)) rfl rfl (lt_ok rfl) p_6 rfl rfl rfl) ?_
  refine TL.c (Step.index_arr (d := (.ints .i64 (vN h (wN b 48) i))) (e := 3) (n := 8) (z := 1) (i := 3) rfl rfl (lt_ok rfl) p_6 rfl rfl p_65 rfl (lt_ok rfl) rfl p_5 p_5) ?_
  refine TL.c (Step.load_row (c := cI ((vN h (wN b 48) i).getD 3 0)) rfl rfl (lt_ok rfl) p_6 rfl rfl rfl) ?_
  refine TL.rx 1 [(207, (pI y29))] [] ?_
  obtain ⟨y34, hy34_⟩ : ∃ y_, y_ = wadd ((vN h (wN b 48) i).getD 3 0) y29 := ⟨_, rfl⟩
  refine TL.c (Step.bin (r := .int .i64 y34) rfl rfl (lt_ok rfl) rfl rfl (Bin.add (k := .i64) (a := ((vN h (wN b 48) i).getD 3 0)) (b := y29) (hy34_.symm))) ?_
  refine TL.c (Step.bin (r := .int .i64 (band y34 4294967295)) rfl rfl (lt_ok rfl) rfl rfl (Bin.and (k := .i64) (a := y34) (b := 4294967295) (rfl))) ?_
  refine TL.rx 1 [(210, (pI ((vN h (wN b 48) i).getD 4 0)))] [] ?_
  refine TL.c (Step.index_arr (d := (.ints .i64 (vN h (wN b 48) i))) (e := 3) (n := 8) (z := 1) (i := 5) rfl rfl (lt_ok rfl) p_6 rfl rfl p_65 rfl (lt_ok rfl) rfl p_5 p_5) ?_
  refine TL.c (Step.load_row (c := cI ((vN h (wN b 48) i).getD 5 0)) rfl rfl (lt_ok rfl) p_6 rfl rfl rfl) ?_
  refine TL.c (Step.index_arr (d := (.ints .i64 (vN h (wN b 48) i))) (e := 3) (n := 8) (z := 1) (i := 6) rfl rfl (lt_ok rfl) p_6 rfl rfl p_65 rfl (lt_ok rfl) rfl p_5 p_5) ?_
  refine TL.c (Step.load_row (c := cI ((vN h (wN b 48) i).getD 6 0)) rfl rfl (lt_ok rfl) p_6 rfl rfl rfl) ?_
  refine TL.c (Step.buildArr (zs := List.replicate 8 (.int .i64 0)) (size := 1) (pss := [(0, [cI y33]), (1, [cI ((vN h (wN b 48) i).getD 0 0)]), (2, [cI ((vN h (wN b 48) i).getD 1 0)]), (3, [cI ((vN h (wN b 48) i).getD 2 0)]), (4, [cI (band y34 4294967295)]), (5, [cI ((vN h (wN b 48) i).getD 4 0)]), (6, [cI ((vN h (wN b 48) i).getD 5 0)]), (7, [cI ((vN h (wN b 48) i).getD 6 0)])]) (ps' := [cI y33, cI ((vN h (wN b 48) i).getD 0 0), cI ((vN h (wN b 48) i).getD 1 0), cI ((vN h (wN b 48) i).getD 2 0), cI (band y34 4294967295), cI ((vN h (wN b 48) i).getD 4 0), cI ((vN h (wN b 48) i).getD 5 0), cI ((vN h (wN b 48) i).getD 6 0)]) rfl rfl (lt_ok rfl) p_6 (.cons ⟨rfl, rfl⟩ (.cons ⟨rfl, rfl⟩ (.cons ⟨rfl, rfl⟩ (.cons ⟨rfl, rfl⟩ (.cons ⟨rfl, rfl⟩ (.cons ⟨rfl, rfl⟩ (.cons ⟨rfl, rfl⟩ (.cons ⟨rfl, rfl⟩ .nil)))))))) rfl p_6 p_6) ?_
  refine TL.c (Step.store_row (n := 8) (p := (.agg [cI y33, cI ((vN h (wN b 48) i).getD 0 0), cI ((vN h (wN b 48) i).getD 1 0), cI ((vN h (wN b 48) i).getD 2 0), cI (band y34 4294967295), cI ((vN h (wN b 48) i).getD 4 0), cI ((vN h (wN b 48) i).getD 5 0), cI ((vN h (wN b 48) i).getD 6 0)])) (ps := [cI y33, cI ((vN h (wN b 48) i).getD 0 0), cI ((vN h (wN b 48) i).getD 1 0), cI ((vN h (wN b 48) i).getD 2 0), cI (band y34 4294967295), cI ((vN h (wN b 48) i).getD 4 0), cI ((vN h (wN b 48) i).getD 5 0), cI ((vN h (wN b 48) i).getD 6 0)]) (es := [(.int .i64 y33), (.int .i64 ((vN h (wN b 48) i).getD 0 0)), (.int .i64 ((vN h (wN b 48) i).getD 1 0)), (.int .i64 ((vN h (wN b 48) i).getD 2 0)), (.int .i64 (band y34 4294967295)), (.int .i64 ((vN h (wN b 48) i).getD 4 0)), (.int .i64 ((vN h (wN b 48) i).getD 5 0)), (.int .i64 ((vN h (wN b 48) i).getD 6 0))]) (ss := []) (d1 := (.ints .i64 [y33, (vN h (wN b 48) i).getD 0 0, (vN h (wN b 48) i).getD 1 0, (vN h (wN b 48) i).getD 2 0, band y34 4294967295, (vN h (wN b 48) i).getD 4 0, (vN h (wN b 48) i).getD 5 0, (vN h (wN b 48) i).getD 6 0])) (d' := (.ints .i64 [y33, (vN h (wN b 48) i).getD 0 0, (vN h (wN b 48) i).getD 1 0, (vN h (wN b 48) i).getD 2 0, band y34 4294967295, (vN h (wN b 48) i).getD 4 0, (vN h (wN b 48) i).getD 5 0, (vN h (wN b 48) i).getD 6 0])) rfl rfl p_6 rfl rfl rfl rfl rfl rfl (.val rfl (.val rfl (.val rfl (.val rfl (.val rfl (.val rfl (.val rfl (.val rfl .nil)))))))) p_104 (by have h_ := Putd.all (k := .i64) (xs := vN h (wN b 48) i) (ys := [y33, (vN h (wN b 48) i).getD 0 0, (vN h (wN b 48) i).getD 1 0, (vN h (wN b 48) i).getD 2 0, band y34 4294967295, (vN h (wN b 48) i).getD 4 0, (vN h (wN b 48) i).getD 5 0, (vN h (wN b 48) i).getD 6 0]) (by first | exact hvl_ | exact hvl_.symm | rfl | (simp; done)); exact h_) rfl) ?_
  refine TL.nil (T.region ?_)
  refine TL.c (Step.bin (r := .int .i64 ((i : Int) + 1)) rfl rfl (lt_ok rfl) rfl rfl (Bin.add (a := (i : Int)) (b := 1) p_10)) ?_
  refine TL.rl [(132, (pI ((i : Int) + 1)))] [] ?_
  subst hy34_ hy33_ hy32_ hy31_ hy30_ hy29_ hy28_ hy27_ hy26_ hy25_ hy24_ hy23_ hy22_ hy21_ hy20_ hy19_
  refine ⟨i + 1, by omega, by first | omega | (dsimp only; omega), Env.le_mk ⟨rfl, rfl, rfl, rfl, ?_, trivial⟩ ⟨rfl, rfl, ?_, trivial⟩ trivial⟩ <;> exact p_69
 refine T.exit (T.sg ?_)
 refine TL.c (Step.lt 3 1 8 [] [] (.ints .i64 [])) ?_
 refine TL.rl [(23, (.one (.row 217 [])))] [] ?_
 refine T.seq ?_
 refine T.sr [(218, (pI 0))] [] ?_
 refine T.block ?_
 refine T.loop (ι := Nat) (fun xx_ => { tm := [(0, (.one (.d (.ints .i64 h)))), (9, (.one (.rptr 9 [] 0 0))), (218, (pI (xx_ : Int))), (23, (.one (.row 217 [])))], rows := [(1044, (3, (.ints .i64 shaK))), (9, (165, (.ints .i64 (vN h (wN b 48) 64)))), (217, (3, (.ints .i64 (outs h (vN h (wN b 48) 64) xx_))))], boxes := [] }) (fun xx_ => xx_ ≤ 8) (fun xx_ => 8 - xx_) 0 ?_ ?_ ?_
 · refine Env.le_mk ⟨rfl, rfl, ?_, rfl, trivial⟩ ⟨rfl, ?_, ?_, trivial⟩ trivial <;> exact p_47
 · exact Nat.zero_le _
 intro i hx
 try dsimp only at hx ⊢
 have hvl_ := vN_len (h := h) (w := wN b 48) p_4 64
 have hol_ := outs_len h (vN h (wN b 48) 64) i
 refine T.sr [(219, (pB (decide ((i : Int) < 8))))] [] ?_
 refine T.seq ?_
 refine T.ci rfl (fun h35 => ?_) (fun h35 => ?_)
 ·refine T.skip (T.seq (T.block ?_))
  refine T.sr [(24, (pI (i : Int)))] [] ?_
  obtain ⟨y36, hy36_⟩ : ∃ y_, y_ = wadd (h.getD i 0) ((vN h (wN b 48) 64).getD i 0) := ⟨_, rfl⟩
  refine T.draw [⟨221, (.one (.row 217 [])), []⟩, ⟨222, (.one (.d (.ints .i64 h))), []⟩, ⟨223, (pI (i : Int)), []⟩, ⟨224, (.one (.eptr (.ints .i64 h) i 0)), []⟩, ⟨225, (pI (h.getD i 0)), []⟩, ⟨226, (pI (i : Int)), []⟩, ⟨227, (.one (.rptr 9 [] i 0)), []⟩, ⟨228, (pI ((vN h (wN b 48) 64).getD i 0)), []⟩, ⟨229, (pI y36), []⟩, ⟨230, (pI (band y36 4294967295)), []⟩, ⟨231, (.one (.d (.ints .i64 [band y36 4294967295]))), []⟩] p_6 p_6 ?_ ?_
  ·refine .cons (fun E A => A.mv 23 221) ?_
   refine .cons (fun E A => A.mv 0 222) ?_
   refine .cons (fun E A => A.mv 24 223) ?_
   refine .cons (fun E A => OpStep.plain rfl (Step.index (e := 3) (z := 1) (i := (i : Int)) (t := 224) rfl rfl p_21 p_6 (A.g 222 rfl) rfl rfl (lt_ok rfl) (A.g 223 rfl) p_5 p_35)) ?_
   refine .cons (fun E A => OpStep.plain rfl (Step.load (e := (.int .i64 (h.getD i 0))) (t := 225) rfl rfl p_21 p_6 (A.g 224 rfl) rfl)) ?_
   refine .cons (fun E A => A.mv 24 226) ?_
   refine .cons (fun E A => OpStep.plain rfl (Step.index_arr (d := (.ints .i64 (vN h (wN b 48) 64))) (e := 3) (n := 8) (z := 1) (i := (i : Int)) (t := 227) rfl rfl p_21 p_6 (A.g 9 rfl) p_111 p_65 rfl (lt_ok rfl) (A.g 226 rfl) p_5 p_5)) ?_
   refine .cons (fun E A => OpStep.plain rfl (Step.load_row (c := cI ((vN h (wN b 48) 64).getD i 0)) (t := 228) rfl rfl p_21 p_6 (A.g 227 rfl) p_111 rfl)) ?_
   refine .cons (fun E A => OpStep.plain rfl (Step.bd (r := .int .i64 y36) 229 (A.g 225 rfl) (A.g 228 rfl) (Bin.add (k := .i64) (a := (h.getD i 0)) (b := ((vN h (wN b 48) 64).getD i 0)) (hy36_.symm)))) ?_
   refine .cons (fun E A => OpStep.plain rfl (Step.bd (r := .int .i64 (band y36 4294967295)) 230 (A.g 229 rfl) rfl (Bin.and (k := .i64) (a := y36) (b := 4294967295) (rfl)))) ?_
   refine .cons (fun E A => OpStep.plain rfl (Step.lit_d (e := 3) (z := 1) (by_ := 8) (xs := [.tmp 230]) (pss := [[cI (band y36 4294967295)]]) (ds := [(.int .i64 (band y36 4294967295))]) (d := (.ints .i64 [band y36 4294967295])) (t := 231) rfl rfl p_21 p_6 rfl rfl (.cons (by exact (congrArg PV.flat (A.g 230 rfl)).trans rfl) .nil) p_104 (le_ok rfl) (le_ok rfl) rfl rfl trivial rfl rfl)) ?_
   exact .nil _ _
  refine TL.c (Step.ap 3 1 8 (.ints .i64 [band y36 4294967295]) (.ints .i64 ((outs h (vN h (wN b 48) 64) i) ++ [band y36 4294967295])) (.froz rfl p_101)) ?_
  refine TL.rl [(23, (.one (.row 217 [])))] [] ?_
  refine T.region ?_
  refine TL.c (Step.bin (r := .int .i64 ((i : Int) + 1)) rfl rfl (lt_ok rfl) rfl rfl (Bin.add (a := (i : Int)) (b := 1) p_10)) ?_
  refine TL.rl [(218, (pI ((i : Int) + 1)))] [] ?_
  subst hy36_
  refine ⟨i + 1, by omega, by first | omega | (dsimp only; omega), Env.le_mk ⟨rfl, rfl, ?_, rfl, trivial⟩ ⟨rfl, rfl, ?_, trivial⟩ trivial⟩ <;> exact p_47
 refine T.exit ?_
 refine T.sr [(4, (.one (.row 217 [])))] [] ?_
 refine T.ret ?_
 refine ⟨_, (.cons rfl .nil), rfl, _, (.o ?_ .nil)⟩ <;> exact p_25
theorem ok_impl_Sha (b : List Int) (h0_ : U8s b) (h1_ : b.length ≤ 17592186040000) : RO Tryz.prog 140 [.one (.ints .u8 b)] [(false, [.own 5 (.ints .u8 (sha b))])] := by
 refine RO.intro Tryz.func140 rfl 48 rfl (le_ok rfl) fun w Z => ?_
 refine T.bnd 0 0 rfl rfl fun hb_0_0 => ?_
 simp only [D.size, List.length_map] at hb_0_0
 refine T.sr [(2, (.one (.nil)))] [] ?_
 refine T.sg ?_
 refine TL.c (Step.cz (ok_impl_ShaInit )) ?_
 refine TL.rx 1 [(10, (pS b))] [] ?_
 have nn1 := shaPad_mod b
 refine TL.c (Step.cz (ok_impl_ShaPad b p_0)) ?_
 refine TL.rx 1 [(3, (.one (.row 1009 [])))] [] ?_
 refine TL.freeze (r := 1011) rfl (fun _ h => h) ?_
 refine TL.rx 1 [(4, (pS (shaPad b)))] [] ?_
 refine TL.ren 1009 600003 rfl p_104 ?_
 refine TL.nil (T.seq ?_)
 refine T.sr [(5, (pI 0))] [] ?_
 refine T.block ?_
 refine T.loop (ι := Nat) (fun xx_ => { tm := [(2, (.one (.nil))), (4, (pS (shaPad b))), (5, (pI (64 * (xx_ : Int)))), (3, (.one (.row 600003 [])))], rows := [(600003, (3, (.ints .i64 (hN (shaPad b) xx_))))], boxes := [] }) (fun xx_ => 64 * xx_ ≤ (shaPad b).length) (fun xx_ => (shaPad b).length - 64 * xx_) 0 ?_ ?_ ?_
 · refine Env.le_mk ⟨rfl, rfl, ?_, rfl, trivial⟩ ⟨?_, trivial⟩ trivial <;> exact p_22
 · exact Nat.zero_le _
 intro i hx
 try dsimp only at hx ⊢
 have hu_ := u8_sub (shaPad_u8 h0_)
 refine T.seq (T.sg ?_)
 refine TL.rx 2 [(12, (pI (64 * (i : Int)))), (13, (pS (shaPad b)))] [] ?_
 refine TL.c (Step.ln 5 1 (.ints .u8 (shaPad b))) ?_
 refine TL.rl [(15, (pB (decide ((64 * (i : Int)) < ((shaPad b).length : Int)))))] [] ?_
 refine T.ci rfl (fun h2 => ?_) (fun h2 => ?_)
 ·refine T.skip (T.seq (T.block (T.region ?_)))
  refine TL.rx 4 [(18, (.one (.row 600003 []))), (19, (pS (shaPad b))), (20, (pI (64 * (i : Int)))), (21, (pI (64 * (i : Int))))] [] ?_
  refine TL.ad ((64 * (i : Int)) + 64) ?_
  refine TL.c (Step.slice (e := 5) (z := 1) (l := (64 * (i : Int)).toNat) (h := ((64 * (i : Int)) + 64).toNat) rfl rfl (lt_ok rfl) p_6 rfl rfl rfl ((.some (i := (64 * (i : Int))) rfl p_17)) ((.some (i := ((64 * (i : Int)) + 64)) rfl p_17)) p_17 p_39 rfl) ?_
  have nn3 := shaBlock_len (hN (shaPad b) i) (((shaPad b).drop (64 * (i : Int)).toNat).take (((64 * (i : Int)) + 64).toNat - (64 * (i : Int)).toNat))
  refine TL.c (Step.cz (ok_impl_ShaBlock (hN (shaPad b) i) (((shaPad b).drop (64 * (i : Int)).toNat).take (((64 * (i : Int)) + 64).toNat - (64 * (i : Int)).toNat)) (by first | assumption | exact hu_ _ _))) ?_
  refine TL.rx 1 [(3, (.one (.row 1024 [])))] [] ?_
  refine TL.weaken (Env.drops_le [600003] _) ?_
  refine TL.ren 1024 600003 rfl p_104 ?_
  refine TL.nil (T.region ?_)
  refine TL.rx 1 [(16, (pI (64 * (i : Int))))] [] ?_
  refine TL.ad ((64 * (i : Int)) + 64) ?_
  refine TL.rl [(5, (pI ((64 * (i : Int)) + 64)))] [] ?_
  refine ⟨i + 1, by omega, by first | omega | (dsimp only; omega), Env.le_mk ⟨rfl, rfl, ?_, rfl, trivial⟩ ⟨?_, trivial⟩ trivial⟩ <;> exact p_22
 refine T.exit (T.sg ?_)
 refine TL.c (Step.lt 5 1 1 [] [] (.ints .u8 [])) ?_
 refine TL.rl [(6, (.one (.row 25 [])))] [] ?_
 refine T.seq (T.sg ?_)
 refine TL.rx 1 [(26, (.one (.row 600003 [])))] [] ?_
 refine TL.c (Step.ln 3 1 (.ints .i64 (hN (shaPad b) i))) ?_
 refine TL.rl [(28, (pI 0))] [] ?_
 refine T.block ?_
 refine T.loop (ι := Nat) (fun xx_ => { tm := [(2, (.one (.nil))), (26, (.one (.row 600003 []))), (27, (pI ((shaH b).length : Int))), (28, (pI (xx_ : Int))), (6, (.one (.row 25 [])))], rows := [(600003, (3, (.ints .i64 (shaH b)))), (25, (5, (.ints .u8 (outB (shaH b) xx_))))], boxes := [] }) (fun xx_ => xx_ ≤ (shaH b).length) (fun xx_ => (shaH b).length - xx_) 0 ?_ ?_ ?_
 · refine Env.le_mk ⟨rfl, rfl, ?_, ?_, rfl, trivial⟩ ⟨?_, ?_, trivial⟩ trivial <;> exact p_59
 · exact Nat.zero_le _
 intro i hx
 try dsimp only at hx ⊢
 have hl_ := outB_len (shaH b) i
 have hh_ : (shaH b).length ≤ 8 := hN_len _ _
 refine T.sr [(29, (pB (decide ((i : Int) < ((shaH b).length : Int)))))] [] ?_
 refine T.seq ?_
 refine T.ci rfl (fun h4 => ?_) (fun h4 => ?_)
 ·refine T.skip (T.seq (T.block (T.sg ?_)))
  refine TL.c (Step.index_row (e := 3) (z := 1) (i := (i : Int)) rfl rfl (lt_ok rfl) p_6 rfl rfl rfl rfl (lt_ok rfl) rfl p_17 p_112) ?_
  refine TL.c (Step.load_row (c := cI ((shaH b).getD i 0)) rfl rfl (lt_ok rfl) p_6 rfl rfl rfl) ?_
  refine TL.rl [(8, (pI ((shaH b).getD i 0)))] [] ?_
  refine T.region ?_
  refine TL.rx 2 [(32, (.one (.row 25 []))), (33, (pI ((shaH b).getD i 0)))] [] ?_
  refine TL.c (Step.bin (r := .int .i64 (bshr ((shaH b).getD i 0) 24)) rfl rfl (lt_ok rfl) rfl rfl (Bin.shr (k := .i64) (k' := .u64) (a := ((shaH b).getD i 0)) (b := 24) p_17 (rfl))) ?_
  refine TL.c (Step.conv (c := ((bshr ((shaH b).getD i 0) 24) % 256)) rfl rfl (lt_ok rfl) p_6 p_6 rfl (wrap_byte _)) ?_
  refine TL.rx 1 [(36, (pI ((shaH b).getD i 0)))] [] ?_
  refine TL.c (Step.bin (r := .int .i64 (bshr ((shaH b).getD i 0) 16)) rfl rfl (lt_ok rfl) rfl rfl (Bin.shr (k := .i64) (k' := .u64) (a := ((shaH b).getD i 0)) (b := 16) p_17 (rfl))) ?_
  refine TL.c (Step.conv (c := ((bshr ((shaH b).getD i 0) 16) % 256)) rfl rfl (lt_ok rfl) p_6 p_6 rfl (wrap_byte _)) ?_
  refine TL.rx 1 [(39, (pI ((shaH b).getD i 0)))] [] ?_
  refine TL.c (Step.bin (r := .int .i64 (bshr ((shaH b).getD i 0) 8)) rfl rfl (lt_ok rfl) rfl rfl (Bin.shr (k := .i64) (k' := .u64) (a := ((shaH b).getD i 0)) (b := 8) p_17 (rfl))) ?_
  refine TL.c (Step.conv (c := ((bshr ((shaH b).getD i 0) 8) % 256)) rfl rfl (lt_ok rfl) p_6 p_6 rfl (wrap_byte _)) ?_
  refine TL.rx 1 [(42, (pI ((shaH b).getD i 0)))] [] ?_
  refine TL.c (Step.conv (c := (((shaH b).getD i 0) % 256)) rfl rfl (lt_ok rfl) p_6 p_6 rfl (wrap_byte _)) ?_
  refine TL.c (Step.lt 5 1 1 [.tmp 35, .tmp 38, .tmp 41, .tmp 43] [[.d (.int .u8 ((bshr ((shaH b).getD i 0) 24) % 256))], [.d (.int .u8 ((bshr ((shaH b).getD i 0) 16) % 256))], [.d (.int .u8 ((bshr ((shaH b).getD i 0) 8) % 256))], [.d (.int .u8 (((shaH b).getD i 0) % 256))]] (.ints .u8 [(bshr ((shaH b).getD i 0) 24) % 256, (bshr ((shaH b).getD i 0) 16) % 256, (bshr ((shaH b).getD i 0) 8) % 256, ((shaH b).getD i 0) % 256])) ?_
  refine TL.c (Step.ap 5 1 1 (.ints .u8 [(bshr ((shaH b).getD i 0) 24) % 256, (bshr ((shaH b).getD i 0) 16) % 256, (bshr ((shaH b).getD i 0) 8) % 256, ((shaH b).getD i 0) % 256]) (.ints .u8 ((outB (shaH b) i) ++ [(bshr ((shaH b).getD i 0) 24) % 256, (bshr ((shaH b).getD i 0) 16) % 256, (bshr ((shaH b).getD i 0) 8) % 256, ((shaH b).getD i 0) % 256])) (.copy rfl rfl rfl p_101)) ?_
  refine TL.rl [(6, (.one (.row 25 [])))] [] ?_
  refine T.region ?_
  refine TL.ad ((i : Int) + 1) ?_
  refine TL.rl [(28, (pI ((i : Int) + 1)))] [] ?_
  refine ⟨i + 1, by omega, by first | omega | (dsimp only; omega), Env.le_mk ⟨rfl, rfl, rfl, ?_, rfl, trivial⟩ ⟨rfl, ?_, trivial⟩ trivial⟩ <;> exact p_59
 refine T.exit ?_
 refine T.sr [(2, (.one (.row 25 [])))] [] ?_
 refine T.ret ?_
 exact p_175
theorem ok_impl_LeafHash (x : List Int) (h0_ : U8s x) (h1_ : x.length ≤ 17592186030000) : RO Tryz.prog 141 [.one (.ints .u8 x)] [(false, [.own 5 (.ints .u8 (leafHash x))])] := by
 refine RO.intro Tryz.func141 rfl 7 rfl (le_ok rfl) fun w Z => ?_
 refine T.bnd 0 0 rfl rfl fun hb_0_0 => ?_
 simp only [D.size, List.length_map] at hb_0_0
 refine T.sr [(2, (.one (.nil)))] [] ?_
 refine T.sg ?_
 refine TL.c (Step.lt 5 1 1 [.const (.int .u8 0)] [[.d (.int .u8 0)]] (.ints .u8 [0])) ?_
 refine TL.rx 1 [(4, (pS x))] [] ?_
 refine TL.c (Step.ap 5 1 1 (.ints .u8 x) (.ints .u8 ([0] ++ x)) (.froz rfl p_101)) ?_
 have nn1 := sha_len ([0] ++ x)
 have nn2 := sha_u8 ([0] ++ x)
 refine TL.c (Step.cz (ok_impl_Sha ([0] ++ x) p_38 p_87)) ?_
 refine TL.rl [(2, (.one (.row 1006 [])))] [] ?_
 refine T.ret ?_
 exact p_135
theorem ok_impl_SplitAt (n : Int) (h0_ : n ≤ 9223372036854775807) : RO Tryz.prog 142 [.one (.int .i64 n)] [(false, [.rd (.int .i64 (ag n))])] := by
 refine RO.intro Tryz.func142 rfl 14 rfl (le_ok rfl) fun w Z => ?_
 refine T.sr [(2, (pI 0))] [] ?_
 refine T.seq ?_
 refine T.sr [(5, (pB (decide (n < 2))))] [] ?_
 refine T.ci rfl (fun h1 => ?_) (fun h1 => ?_)
 ·refine T.sr [(2, (pI 0))] [] ?_
  refine T.ret ?_
  exact p_169
 refine T.skip ?_
 refine T.sr [(3, (pI 1))] [] ?_
 refine T.seq (T.block ?_)
 refine T.loop (ι := Nat × Int) (fun xx_ => { tm := [(0, (pI n)), (2, (pI 0)), (3, (pI (xx_.2)))], rows := [], boxes := [] }) (fun xx_ => 1 ≤ (xx_.2) ∧ (xx_.2) < n ∧ n ≤ (xx_.2) + (xx_.1) ∧ splitGo (xx_.1) n (xx_.2) = splitAt n) (fun xx_ => (xx_.1)) (n.toNat, 1) ?_ ?_ ?_
 · refine Env.le_mk ⟨rfl, rfl, ?_, trivial⟩ trivial trivial <;> exact p_113
 · (dsimp only; refine ⟨by omega, by omega, by omega, rfl⟩)
 intro xx_ hx
 obtain ⟨d, x⟩ := xx_
 try dsimp only at hx ⊢
 obtain ⟨hx1, hx2, hx3, hx4⟩ := hx
 obtain ⟨d', rfl⟩ : ∃ d', d = d' + 1 := ⟨d - 1, by omega⟩
 unfold splitGo at hx4
 refine T.seq (T.sg ?_)
 refine TL.rx 3 [(6, (pI x)), (7, (pI n)), (8, (pI x))] [] ?_
 refine TL.sb (n - x) ?_
 refine TL.rl [(10, (pB (decide (x < (n - x)))))] [] ?_
 refine T.ci rfl (fun h2 => ?_) (fun h2 => ?_)
 ·refine T.skip (T.block (T.region ?_))
  refine TL.rx 1 [(11, (pI x))] [] ?_
  refine TL.ml (x * 2) ?_
  refine TL.rl [(3, (pI (x * 2)))] [] ?_
  refine ⟨(d', x * 2), by (try dsimp only); (rw [if_pos p_4] at hx4; refine ⟨by omega, by omega, by omega, ?_⟩; first | exact hx4 | (rw [Int.mul_comm]; exact hx4)), by (dsimp only; omega), Env.le_mk ⟨rfl, rfl, ?_, trivial⟩ trivial trivial⟩ <;> exact p_113
 refine T.exit ?_
 refine T.sr [(2, (pI x))] [] ?_
 refine T.ret ?_
 exact p_169
theorem ok_impl_NodeHash (a : List Int) (b : List Int) (h0_ : U8s a) (h1_ : U8s b) (h2_ : a.length ≤ 1048576) (h3_ : b.length ≤ 1048576) : RO Tryz.prog 143 [.one (.ints .u8 a), .one (.ints .u8 b)] [(false, [.own 5 (.ints .u8 (nodeHash a b))])] := by
 refine RO.intro Tryz.func143 rfl 11 rfl (le_ok rfl) fun w Z => ?_
 refine T.bnd 0 0 rfl rfl fun hb_0_0 => ?_
 simp only [D.size, List.length_map] at hb_0_0
 refine T.bnd 1 0 rfl rfl fun hb_1_0 => ?_
 simp only [D.size, List.length_map] at hb_1_0
 refine T.sr [(4, (.one (.nil)))] [] ?_
 refine T.sg ?_
 refine TL.c (Step.lt 5 1 1 [.const (.int .u8 1)] [[.d (.int .u8 1)]] (.ints .u8 [1])) ?_
 refine TL.rx 1 [(6, (pS a))] [] ?_
 refine TL.c (Step.ap 5 1 1 (.ints .u8 a) (.ints .u8 ([1] ++ a)) (.froz rfl p_101)) ?_
 refine TL.rx 1 [(8, (pS b))] [] ?_
 refine TL.c (Step.ap 5 1 1 (.ints .u8 b) (.ints .u8 (([1] ++ a) ++ b)) (.froz rfl p_101)) ?_
 have nn1 := sha_len (([1] ++ a) ++ b)
 have nn2 := sha_u8 (([1] ++ a) ++ b)
 refine TL.c (Step.cz (ok_impl_Sha (([1] ++ a) ++ b) p_38 p_87)) ?_
 refine TL.rl [(4, (.one (.row 1010 [])))] [] ?_
 refine T.ret ?_
 exact p_135
theorem ok_impl_TreeRoot_r (d_ : Nat) : ∀ (l : List (List Int)) (hd_ : l.length = d_) (h0_ : ∀ y ∈ l, U8s y) (h1_ : ∀ y ∈ l, y.length ≤ 1048576), RO Tryz.prog 119 [.one (.bss l)] [(false, [.own 5 (.ints .u8 (aj l))])] := by
 refine Nat.strongRecOn d_ ?_
 intro d_ ih l hd_ h0_ h1_
 subst hd_
 refine RO.intro Tryz.func119 rfl 27 rfl (le_ok rfl) fun w Z => ?_
 refine T.bnd 0 0 rfl rfl fun hb_0_0 => ?_
 simp only [D.size, List.length_map] at hb_0_0
 have hsb_ := splitAtT_bd (l.length : Int)
 have hsl_ := splitAtT_le (l.length : Int)
 have hpt_ := part_len l
 have hy_ := mem_len h1_ 0
 refine T.sr [(2, (.one (.nil)))] [] ?_
 refine T.seq (T.sg ?_)
 refine TL.rx 1 [(4, (.one (.d (.bss l))))] [] ?_
 refine TL.c (Step.ln 24 1 (.bss l)) ?_
 refine TL.nil (T.block ?_)
 refine T.sr [(6, (pB (decide ((l.length : Int) = 0))))] [] ?_
 refine T.ci rfl (fun h1 => ?_) (fun h1 => ?_)
 ·refine T.sg ?_
  have nn2 := sha_len []
  have nn3 := sha_u8 []
  refine TL.c (Step.cz (ok_impl_Sha [] p_38 p_87)) ?_
  refine TL.rl [(2, (.one (.row 1008 [])))] [] ?_
  refine T.ret ?_
  exact p_150
 refine T.sr [(9, (pB (decide ((l.length : Int) = 1))))] [] ?_
 refine T.ci rfl (fun h4 => ?_) (fun h4 => ?_)
 ·refine T.sg ?_
  refine TL.rx 1 [(11, (.one (.d (.bss l))))] [] ?_
  refine TL.c (Step.index (e := 24) (z := 1) (i := 0) rfl rfl (lt_ok rfl) p_6 rfl rfl rfl (lt_ok rfl) rfl p_17 p_39) ?_
  refine TL.c (Step.load (e := (.ints .u8 (l.getD 0 []))) rfl rfl (lt_ok rfl) p_6 rfl rfl) ?_
  have nn5 := leafHash_len (l.getD 0 [])
  have nn6 := leafHash_u8 (l.getD 0 [])
  refine TL.c (Step.cz (ok_impl_LeafHash (l.getD 0 []) p_43 p_0)) ?_
  refine TL.rl [(2, (.one (.row 1014 [])))] [] ?_
  refine T.ret ?_
  exact p_150
 refine T.skip (T.sg ?_)
 refine TL.rx 1 [(15, (.one (.d (.bss l))))] [] ?_
 refine TL.c (Step.ln 24 1 (.bss l)) ?_
 have nn7 := splitAtT_bd (l.length : Int)
 refine TL.c (Step.cz (ok_impl_SplitAt (l.length : Int) p_0)) ?_
 refine TL.rl [(3, (pI (ag (l.length : Int))))] [] ?_
 refine T.seq ?_
 have nn8 := treeRoot_len ((l.drop 0).take ((ag (l.length : Int)).toNat - 0))
 have nn9 := treeRoot_u8 ((l.drop 0).take ((ag (l.length : Int)).toNat - 0))
 have nn10 := treeRoot_len ((l.drop (ag (l.length : Int)).toNat).take (l.length - (ag (l.length : Int)).toNat))
 have nn11 := treeRoot_u8 ((l.drop (ag (l.length : Int)).toNat).take (l.length - (ag (l.length : Int)).toNat))
 have nn12 := nodeHash_len (aj ((l.drop 0).take ((ag (l.length : Int)).toNat - 0))) (aj ((l.drop (ag (l.length : Int)).toNat).take (l.length - (ag (l.length : Int)).toNat)))
 have nn13 := nodeHash_u8 (aj ((l.drop 0).take ((ag (l.length : Int)).toNat - 0))) (aj ((l.drop (ag (l.length : Int)).toNat).take (l.length - (ag (l.length : Int)).toNat)))
 refine T.draw [⟨18, (.one (.d (.bss l))), []⟩, ⟨19, (pI (ag (l.length : Int))), []⟩, ⟨20, (.one (.d (.bss ((l.drop 0).take ((ag (l.length : Int)).toNat - 0))))), []⟩, ⟨21, (.one (.row 1021 [])), [(1021, (5, (.ints .u8 (aj ((l.drop 0).take ((ag (l.length : Int)).toNat - 0))))))]⟩, ⟨22, (.one (.d (.bss l))), []⟩, ⟨23, (pI (ag (l.length : Int))), []⟩, ⟨24, (.one (.d (.bss ((l.drop (ag (l.length : Int)).toNat).take (l.length - (ag (l.length : Int)).toNat))))), []⟩, ⟨25, (.one (.row 1025 [])), [(1025, (5, (.ints .u8 (aj ((l.drop (ag (l.length : Int)).toNat).take (l.length - (ag (l.length : Int)).toNat))))))]⟩, ⟨26, (.one (.row 1026 [])), [(1026, (5, (.ints .u8 (nodeHash (aj ((l.drop 0).take ((ag (l.length : Int)).toNat - 0))) (aj ((l.drop (ag (l.length : Int)).toNat).take (l.length - (ag (l.length : Int)).toNat)))))))]⟩, ⟨2, (.one (.row 1026 [])), []⟩] p_6 p_6 ?_ ?_
 ·refine .cons (fun E A => A.mv 0 18) ?_
  refine .cons (fun E A => A.mv 3 19) ?_
  refine .cons (fun E A => OpStep.plain rfl (Step.slice (e := 24) (z := 1) (l := 0) (h := (ag (l.length : Int)).toNat) (t := 20) rfl rfl p_21 p_6 (A.g 18 rfl) rfl rfl (.none _) ((.some (i := (ag (l.length : Int))) (A.g 19 rfl) p_17)) p_17 p_39 rfl)) ?_
  refine .cons (fun E A => OpStep.plain rfl (Step.call (f := 119) (xs := [.tmp 20]) (ps := [(.one (.d (.bss ((l.drop 0).take ((ag (l.length : Int)).toNat - 0)))))]) false (g := .func 119) (t := 21) rfl rfl p_21 rfl p_6 (evs_cons (A.g 20 rfl) (rfl)) (.cons (.one (.d _)) .nil) (ih ((l.drop 0).take ((ag (l.length : Int)).toNat - 0)).length p_4 ((l.drop 0).take ((ag (l.length : Int)).toNat - 0)) rfl p_88 p_85) (.inr rfl) (At.freshRows A rfl) p_104 rfl)) ?_
  refine .cons (fun E A => A.mv 0 22) ?_
  refine .cons (fun E A => A.mv 3 23) ?_
  refine .cons (fun E A => OpStep.plain rfl (Step.slice (e := 24) (z := 1) (l := (ag (l.length : Int)).toNat) (h := l.length) (t := 24) rfl rfl p_21 p_6 (A.g 22 rfl) rfl rfl ((.some (i := (ag (l.length : Int))) (A.g 23 rfl) p_17)) (.none _) p_17 p_39 rfl)) ?_
  refine .cons (fun E A => OpStep.plain rfl (Step.call (f := 119) (xs := [.tmp 24]) (ps := [(.one (.d (.bss ((l.drop (ag (l.length : Int)).toNat).take (l.length - (ag (l.length : Int)).toNat)))))]) false (g := .func 119) (t := 25) rfl rfl p_21 rfl p_6 (evs_cons (A.g 24 rfl) (rfl)) (.cons (.one (.d _)) .nil) (ih ((l.drop (ag (l.length : Int)).toNat).take (l.length - (ag (l.length : Int)).toNat)).length p_4 ((l.drop (ag (l.length : Int)).toNat).take (l.length - (ag (l.length : Int)).toNat)) rfl p_88 p_85) (.inr rfl) (At.freshRows A rfl) p_104 rfl)) ?_
  refine .cons (fun E A => OpStep.plain rfl (Step.cd (xs := [.tmp 21, .tmp 25]) (ps := [(.one (.row 1021 [])), (.one (.row 1025 []))]) (g := .func 143) false 26 (evs_cons (A.g 21 rfl) (evs_cons (A.g 25 rfl) (rfl))) (.cons (.one (.row rfl (by exact (A.row 1021 (by kernel_rfl)).trans rfl) rfl rfl)) (.cons (.one (.row rfl (by exact (A.row 1025 (by kernel_rfl)).trans rfl) rfl rfl)) .nil)) (ok_impl_NodeHash (aj ((l.drop 0).take ((ag (l.length : Int)).toNat - 0))) (aj ((l.drop (ag (l.length : Int)).toNat).take (l.length - (ag (l.length : Int)).toNat))) p_43 p_43 p_0 p_0) (At.freshRows A rfl))) ?_
  refine .cons (fun E A => A.as 26 2) ?_
  exact .nil _ _
 refine TL.nil (T.ret ?_)
 exact p_150
theorem ok_impl_TreeRoot (l : List (List Int)) (h0_ : ∀ y ∈ l, U8s y) (h1_ : ∀ y ∈ l, y.length ≤ 1048576) : RO Tryz.prog 119 [.one (.bss l)] [(false, [.own 5 (.ints .u8 (aj l))])] := ok_impl_TreeRoot_r _ l rfl h0_ h1_
theorem ok_impl_readBlock (b : List Int) (s : SRS) (l : SLimits) (h0_ : U8s b) (h1_ : b.length ≤ 1048576) (h2_ : limOk l = true) : BX Tryz.prog 79 [.rd (.agg [(.int .i64 l.f0), (.int .i64 l.f1), (.int .i64 l.f2), (.int .i64 l.f3), (.int .i64 l.f4)]), .bx] 151 [.rd (.ints .u8 b), .rd (.int .i64 s.f0), .rd (.int .i64 s.f1)] [.rd (.ints .u8 b), .rd (.int .i64 (am l b s).1.f0), .rd (.int .i64 (am l b s).1.f1)] [(true, [.rd (.int .i64 (am l b s).2.f0.f0), .rd (.int .i64 (am l b s).2.f0.f1), .rd (.int .i64 (am l b s).2.f0.f2), .own 5 (.ints .u8 (am l b s).2.f0.f3), .own 5 (.ints .u8 (am l b s).2.f0.f4), .rd (.int .i64 (am l b s).2.f0.f5.f0), .rd (.int .i64 (am l b s).2.f0.f5.f1), .own 5 (.ints .u8 (am l b s).2.f0.f5.f2), .own 5 (.ints .u8 (am l b s).2.f0.f5.f3), .own 24 (.bss (am l b s).2.f0.f5.f4), .own 24 (.bss (am l b s).2.f1)])] := by
 refine BX.intro Tryz.func79 rfl 55 rfl (le_ok rfl) (le_ok rfl) fun w Z IX pin hp => ?_
 have hl2_ : 0 ≤ l.f2 ∧ l.f2 ≤ 8 := by have h_ := h2_; simp [limOk] at h_; omega
 have hb1_ := @ay b h0_ (af l b s).1
 have hb2_ : (rdB2 l b s).2 = (ab b (af l b s).1).2 := rfl
 have hb3_ : (ai b (af l b s).1 (l.f2 + 1) 3).2 = (rdB2 l b s).2 := rfl
 have hho_ := @rdHead_ok l b s h0_
 have hr4_ := hho_.2.2.2.2.1
 refine T.sr [(2, (.one (.ptr 2 0))), (4, (.one (.ptr 4 0)))] [(2, (46, (c_3 l))), (4, (33, c_19))] ?_
 refine T.sg ?_
 refine TL.rx 2 [(8, (.agg (c_3 l))), (9, (.one (.ptr 800 0)))] [] ?_
 have nn1 := @rdHead_sm l b s p_60
 have nn2 := @rdHead_ok l b s p_3
 refine TL.c (Step.x2 800 (ok_impl_readHead b s l p_3 p_0)) ?_
 refine TL.rl [(5, (.one (.ptr 5 0)))] [(5, (33, (c_37 b l s)))] ?_
 refine T.sg ?_
 refine TL.rx 3 [(12, (.one (.ptr 800 0))), (14, (pI l.f2))] [] ?_
 refine TL.ad (l.f2 + 1) ?_
 have nn3 := @ay b p_3 (af l b s).1
 refine TL.c (Step.x2 800 (ok_impl_reader__below b (af l b s).1 (l.f2 + 1) 3 p_3 p_0)) ?_
 refine TL.rl [(6, (pI (ai b (af l b s).1 (l.f2 + 1) 3).2))] [] ?_
 refine T.seq ?_
 refine T.sr [(7, (pI 0))] [] ?_
 refine T.block ?_
 refine T.nilrow 5 10 100510 24 33 (.bss []) (c_37 b l s) rfl rfl rfl (fun x hx => by have := hp x hx; omega) rfl rfl trivial ?_
 refine T.loop (ι := Nat × SRS × (List (List Int))) (fun xx_ => { tm := [(1, (.one (.ptr 800 0))), (2, (.one (.ptr 2 0))), (4, (.one (.ptr 4 0))), (5, (.one (.ptr 5 0))), (6, (pI (ai b (af l b s).1 (l.f2 + 1) 3).2)), (7, (pI ((xx_.1) : Int)))], rows := [(7010, (5, (.ints .u8 (af l b s).2.f3))), (8010, (5, (.ints .u8 (af l b s).2.f4))), (11010, (5, (.ints .u8 (af l b s).2.f5.f2))), (12010, (5, (.ints .u8 (af l b s).2.f5.f3))), (13010, (24, (.bss (af l b s).2.f5.f4))), (100510, (24, (.bss (xx_.2.2))))], boxes := [(800, (151, [cS b, cI (xx_.2.1).f0, cI (xx_.2.1).f1])), (2, (46, (c_3 l))), (4, (33, c_19)), (5, (33, (c_4 b l s)))] }) (fun xx_ => ((xx_.1) : Int) ≤ (rdB2 l b s).2 ∧ ((xx_.2.1).f1 = 0 → (rdB2 l b s).2 ≤ 8) ∧ (xx_.2.2).length = (xx_.1) ∧ (∀ y ∈ (xx_.2.2), U8s y) ∧ (∀ y ∈ (xx_.2.2), y.length ≤ 1048576) ∧ rdTx l b ((rdB2 l b s).2.toNat - (xx_.1)) (xx_.2.1) (xx_.2.2) = rdTx l b (rdB2 l b s).2.toNat (rdB2 l b s).1 []) (fun xx_ => (rdB2 l b s).2.toNat - (xx_.1)) (0, (rdB2 l b s).1, []) ?_ ?_ ?_
 · refine Env.le_mk ⟨rfl, rfl, rfl, rfl, rfl, ?_, trivial⟩ ⟨rfl, rfl, rfl, rfl, rfl, ?_, trivial⟩ ⟨?_, rfl, rfl, rfl, trivial⟩ <;> exact p_22
 · (dsimp only; exact ⟨by omega, fun h_ => rdB2_z ((fun _ => h2_)) h_, rfl, (fun y hy => by cases hy), (fun y hy => by cases hy), rfl⟩)
 intro xx_ hx
 obtain ⟨i, q, ts⟩ := xx_
 try dsimp only at hx ⊢
 obtain ⟨hx1, hx2, hx3, hx5, hx6, hx4⟩ := hx
 refine T.seq (T.sg ?_)
 refine TL.rx 4 [(20, (pB (decide ((i : Int) < (ai b (af l b s).1 (l.f2 + 1) 3).2))))] [] ?_
 rcases Bool.eq_false_or_eq_true (decide ((i : Int) < (ai b (af l b s).1 (l.f2 + 1) 3).2)) with hb4 | hb4
 ·refine TL.known 20 hb4 rfl ?_
  have hb4' := hb4
  replace hb4' := of_decide_eq_true hb4'
  refine TL.rl [(26, (pB (decide (q.f1 = 0))))] [] ?_
  refine T.ci rfl (fun h5 => ?_) (fun h5 => ?_)
  ·refine T.skip (T.seq (T.block ?_))
   have nn6 := rdText_len b q l.f1
   refine T.drawX [{ dst := some 29, pv := (.one (.ptr 5 10)) }, { dst := some 30, pv := (.one (.row 100510 [])) }, { dst := some 31, pv := (.one (.ptr 800 0)) }, { dst := some 32, pv := (.one (.ptr 2 1)) }, { dst := some 33, pv := (pI l.f1) }, { dst := some 34, pv := (.one (.row 4034 [])), rows := [(4034, (5, (.ints .u8 (rdText b q l.f1).2)))], box := some (800, (151, (c_76 b l q))) }, { dst := some 35, pv := (.one (.row 35 [])), rows := [(35, (24, (.bss [(rdText b q l.f1).2])))], dead := [4034] }, { dst := some 36, pv := (.one (.row 500036 [])), rows := [(500036, (24, (.bss (ts ++ [(rdText b q l.f1).2]))))], dead := [100510, 35] }, { dst := some 37, pv := (.one (.ptr 5 10)) }, { box := some (5, (33, (c_56 b l s))) }] p_6 p_6 ?_ ?_
   ·refine .sk 5 ?_
    refine .cons (fun E A => OpStep.plain rfl (Step.callXX2 (b := 800) (xs := [.tmp 31, .tmp 33]) (ps := [(.one (.ptr 800 0)), (pI l.f1)]) (bps := (c_72 b q)) (ss := []) (g := .func 117) (t := 34) (ok_impl_reader__text b q l.f1 p_3 p_0) rfl rfl p_21 rfl p_6 (evs_cons (A.g 31) (evs_cons (A.g 33) (rfl))) (.cons (.bx) (.cons (.rd (.one (.d _))) .nil)) (A.b 800 (x := (151, _))) (.rd (.rd (.rd .nil))) rfl (handX_fresh (fun x_ hx_ => A.fresh x_ (by exact hx_))) (fun x hx => by have := hp x hx; omega) rfl p_109)) ?_
    refine .cons (fun E A => OpStep.plain rfl (Step.litX (e := 24) (z := 1) (by_ := 24) (xs := [.tmp 34]) (pss := [[.row 4034 []]]) (es := [(.ints .u8 (rdText b q l.f1).2)]) (ss := [4034]) (d := (.bss [(rdText b q l.f1).2])) (t := 35) rfl rfl p_21 p_6 rfl rfl (.cons (by exact (congrArg PV.flat (A.g 34 (p := (.one (.row 4034 []))))).trans rfl) .nil) p_104 (le_ok rfl) (le_ok rfl) A.fn (.row (A.r 4034 (x := (5, _))) p_104 .nil) (A.fresh _ (List.mem_singleton.2 rfl)) p_104 (fun x_ hx_ => by have := hp x_ hx_; omega) rfl trivial rfl rfl)) ?_
    refine .cons (fun E A => OpStep.plain rfl (Step.appendX (e := 24) (z := 1) (by_ := 24) (d := (.bss ts)) (dy := (.bss [(rdText b q l.f1).2])) (d' := (.bss (ts ++ [(rdText b q l.f1).2]))) (ss := [35]) 500036 (t := 36) rfl rfl p_21 p_6 (A.g 30) (A.r 100510 (x := (24, _))) rfl (lt_ok rfl) (A.g 35) (.move (A.r 35 (x := (24, _)))) p_104 rfl p_19 p_19 (fun x_ hx_ => by have := hp x_ hx_; omega) (A.fresh _ (List.mem_singleton.2 rfl)) p_104 (fun x_ hx_ => by have := hp x_ hx_; omega))) ?_
    refine .sk 2 ?_
    exact .nil _ _
   refine TL.wk [(1, (.one (.ptr 800 0))), (2, (.one (.ptr 2 0))), (4, (.one (.ptr 4 0))), (5, (.one (.ptr 5 0))), (6, (pI (ai b (af l b s).1 (l.f2 + 1) 3).2)), (7, (pI (i : Int)))] [(7010, (5, (.ints .u8 (af l b s).2.f3))), (8010, (5, (.ints .u8 (af l b s).2.f4))), (11010, (5, (.ints .u8 (af l b s).2.f5.f2))), (12010, (5, (.ints .u8 (af l b s).2.f5.f3))), (13010, (24, (.bss (af l b s).2.f5.f4))), (500036, (24, (.bss (ts ++ [(rdText b q l.f1).2]))))] [(800, (151, (c_76 b l q))), (2, (46, (c_3 l))), (4, (33, c_19)), (5, (33, (c_56 b l s)))] ?_
   refine TL.ren 500036 100510 rfl (fun x hx => by have := hp x hx; omega) ?_
   refine TL.nil (T.region ?_)
   refine TL.rx 1 [(27, (pI (i : Int)))] [] ?_
   refine TL.ad ((i : Int) + 1) ?_
   refine TL.rl [(7, (pI ((i : Int) + 1)))] [] ?_
   refine ⟨(i + 1, (rdText b q l.f1).1, (ts ++ [(rdText b q l.f1).2])), by (try dsimp only); (refine ⟨by omega, fun _ => by omega, by simp only [List.length_append, List.length_cons, List.length_nil]; first | done | omega, mem_snoc hx5 (rdText_u8 h0_ q l.f1), mem_snoc hx6 (Nat.le_trans (rdText_len b q l.f1) h1_), ?_⟩; exact (rdTx_next p_4 p_4).symm.trans hx4), by (dsimp only; omega), Env.le_mk ⟨rfl, rfl, rfl, rfl, rfl, ?_, trivial⟩ ⟨rfl, rfl, rfl, rfl, rfl, ?_, trivial⟩ ⟨?_, rfl, rfl, rfl, trivial⟩⟩ <;> exact p_22
  refine T.exit (T.seq ?_)
  rcases Bool.eq_false_or_eq_true (decide (q.f1 ≠ 0)) with hb7 | hb7
  ·have hb7' := hb7
   replace hb7' := of_decide_eq_true hb7'
   refine T.drawX [{ dst := some 38, pv := (.one (.ptr 800 0)) }, { dst := some 39, pv := (.one (.ptr 800 0)) }, { dst := some 40, pv := (.one (.ptr 800 0)) }, { dst := some 41, pv := (.one (.ptr 800 2)) }, { dst := some 42, pv := (pI q.f1) }, { dst := some 43, pv := (pB true) }, { dst := some 44, pv := (pB true) }, { dst := some 45, pv := (.tup []) }, { dst := some 46, pv := (.tup []) }, { dst := some 47, pv := (.tup []) }, { dst := some 48, pv := (.tup []) }, { dst := some 49, pv := (.tup []) }, { dst := some 50, pv := (.tup []) }, { dst := some 51, pv := (.tup []) }, { dst := some 52, pv := (pB true) }, { dst := some 53, pv := (.tup []), box := some (800, (151, (c_79 b q))) }] p_6 p_6 ?_ ?_
   ·refine .sk 5 ?_
    refine .cons (fun E A => OpStep.plain rfl (Step.tb 43 (decide (q.f1 ≠ 0)) hb7 (Step.bd 43 (A.g 42) rfl (Bin.neq (k := .i64) (a := q.f1) (b := 0))))) ?_
    refine .sk 9 ?_
    refine .cons (fun E A => OpStep.plain rfl (Step.callXX2 (b := 800) (xs := [.tmp 38, .tmp 52, .const (.int .i64 7)]) (ps := [(.one (.ptr 800 0)), (pB true), (pI 7)]) (bps := (c_72 b q)) (ss := []) (g := .func 115) (t := 53) (ok_impl_reader__must b q true 7 p_3 p_0) rfl rfl p_21 rfl p_6 (evs_cons (A.g 38) (evs_cons (A.g 52) (evs_cons rfl (rfl)))) (.cons (.bx) (.cons (.rd (.one (.d _))) (.cons (.rd (.one (.d _))) .nil))) (A.b 800 (x := (151, _))) (.rd (.rd (.rd .nil))) rfl (handX_fresh (fun x_ hx_ => A.fresh x_ (by exact hx_))) (fun x hx => by have := hp x hx; omega) rfl p_109)) ?_
    exact .nil _ _
   refine TL.wk [(4, (.one (.ptr 4 0))), (5, (.one (.ptr 5 0)))] [(7010, (5, (.ints .u8 (af l b s).2.f3))), (8010, (5, (.ints .u8 (af l b s).2.f4))), (11010, (5, (.ints .u8 (af l b s).2.f5.f2))), (12010, (5, (.ints .u8 (af l b s).2.f5.f3))), (13010, (24, (.bss (af l b s).2.f5.f4))), (100510, (24, (.bss ts)))] [(800, (151, (c_79 b q))), (2, (46, (c_3 l))), (4, (33, c_19)), (5, (33, (c_4 b l s)))] ?_
   refine TL.nil ?_
   refine T.sr [] [(4, (33, (c_4 b l s)))] ?_
   refine T.ret ?_
   exact p_132
  have hb7' := hb7
  replace hb7' := of_decide_eq_false hb7'
  have nn8 := treeRoot_len ts
  have nn9 := treeRoot_u8 ts
  refine T.drawX [{ dst := some 38, pv := (.one (.ptr 800 0)) }, { dst := some 39, pv := (.one (.ptr 800 0)) }, { dst := some 40, pv := (.one (.ptr 800 0)) }, { dst := some 41, pv := (.one (.ptr 800 2)) }, { dst := some 42, pv := (pI q.f1) }, { dst := some 43, pv := (pB false) }, { dst := some 44, pv := (pB false) }, { dst := some 45, pv := (.one (.ptr 5 0)) }, { dst := some 46, pv := (.one (.ptr 5 4)) }, { dst := some 47, pv := (.one (.row 8010 [])) }, { dst := some 48, pv := (.one (.ptr 5 10)) }, { dst := some 49, pv := (.one (.row 100510 [])) }, { dst := some 50, pv := (.one (.row 1050 [])), rows := [(1050, (5, (.ints .u8 (aj ts))))] }, { dst := some 51, pv := (pB (decide ((af l b s).2.f4 = (aj ts)))) }, { dst := some 52, pv := (pB (decide ((af l b s).2.f4 = (aj ts)))) }, { dst := some 53, pv := (.tup []), box := some (800, (151, (c_25 b l q s ts))) }] p_6 p_6 ?_ ?_
  ·refine .sk 5 ?_
   refine .cons (fun E A => OpStep.plain rfl (Step.tb 43 (decide (q.f1 ≠ 0)) hb7 (Step.bd 43 (A.g 42) rfl (Bin.neq (k := .i64) (a := q.f1) (b := 0))))) ?_
   refine .sk 6 ?_
   refine .cons (fun E A => OpStep.yes (t := 44) rfl rfl (lt_ok rfl) (A.g 44) (Step.call (f := 119) (xs := [.tmp 49]) (ps := [(.one (.row 100510 []))]) false (g := .func 119) (t := 50) rfl rfl p_21 rfl p_6 (evs_cons (A.g 49) (rfl)) (.cons (.one (.row rfl (A.r 100510 (x := (24, _))) rfl rfl)) .nil) (ok_impl_TreeRoot ts p_88 p_85) (.inr rfl) (AtX.frs A) (fun x hx => by have := hp x hx; omega) rfl)) ?_
   refine .cons (fun E A => OpStep.yes (t := 44) rfl rfl (lt_ok rfl) (A.g 44) (Step.call (f := 118) (xs := [.tmp 47, .tmp 50]) (ps := [(.one (.row 8010 [])), (.one (.row 1050 []))]) false (g := .func 118) (t := 51) rfl rfl p_21 rfl p_6 (evs_cons (A.g 47) (evs_cons (A.g 50) (rfl))) (.cons (.one (.row rfl (A.r 8010 (x := (5, _))) rfl rfl)) (.cons (.one (.row rfl (A.r 1050 (x := (5, _))) rfl rfl)) .nil)) (ok_impl_SameBytes (af l b s).2.f4 (aj ts) p_106 p_106) (.inr rfl) (AtX.frs A) (fun x hx => by have := hp x hx; omega) rfl)) ?_
   refine .sk 1 ?_
   refine .cons (fun E A => OpStep.plain rfl (Step.callXX2 (b := 800) (xs := [.tmp 38, .tmp 52, .const (.int .i64 7)]) (ps := [(.one (.ptr 800 0)), (pB (decide ((af l b s).2.f4 = (aj ts)))), (pI 7)]) (bps := (c_72 b q)) (ss := []) (g := .func 115) (t := 53) (ok_impl_reader__must b q (decide ((af l b s).2.f4 = (aj ts))) 7 p_3 p_0) rfl rfl p_21 rfl p_6 (evs_cons (A.g 38) (evs_cons (A.g 52) (evs_cons rfl (rfl)))) (.cons (.bx) (.cons (.rd (.one (.d _))) (.cons (.rd (.one (.d _))) .nil))) (A.b 800 (x := (151, _))) (.rd (.rd (.rd .nil))) rfl (handX_fresh (fun x_ hx_ => A.fresh x_ (by exact hx_))) (fun x hx => by have := hp x hx; omega) rfl p_109)) ?_
   exact .nil _ _
  refine TL.wk [(4, (.one (.ptr 4 0))), (5, (.one (.ptr 5 0)))] [(7010, (5, (.ints .u8 (af l b s).2.f3))), (8010, (5, (.ints .u8 (af l b s).2.f4))), (11010, (5, (.ints .u8 (af l b s).2.f5.f2))), (12010, (5, (.ints .u8 (af l b s).2.f5.f3))), (13010, (24, (.bss (af l b s).2.f5.f4))), (100510, (24, (.bss ts))), (1050, (5, (.ints .u8 (aj ts))))] [(800, (151, (c_25 b l q s ts))), (2, (46, (c_3 l))), (4, (33, c_19)), (5, (33, (c_4 b l s)))] ?_
  refine TL.nil ?_
  refine T.sr [] [(4, (33, (c_4 b l s)))] ?_
  refine T.ret ?_
  exact p_132
 refine TL.known 20 hb4 rfl ?_
 have hb4' := hb4
 replace hb4' := of_decide_eq_false hb4'
 refine TL.rl [(26, (pB false))] [] ?_
 refine T.cf (T.exit (T.seq ?_))
 rcases Bool.eq_false_or_eq_true (decide (q.f1 ≠ 0)) with hb10 | hb10
 ·have hb10' := hb10
  replace hb10' := of_decide_eq_true hb10'
  refine T.drawX [{ dst := some 38, pv := (.one (.ptr 800 0)) }, { dst := some 39, pv := (.one (.ptr 800 0)) }, { dst := some 40, pv := (.one (.ptr 800 0)) }, { dst := some 41, pv := (.one (.ptr 800 2)) }, { dst := some 42, pv := (pI q.f1) }, { dst := some 43, pv := (pB true) }, { dst := some 44, pv := (pB true) }, { dst := some 45, pv := (.tup []) }, { dst := some 46, pv := (.tup []) }, { dst := some 47, pv := (.tup []) }, { dst := some 48, pv := (.tup []) }, { dst := some 49, pv := (.tup []) }, { dst := some 50, pv := (.tup []) }, { dst := some 51, pv := (.tup []) }, { dst := some 52, pv := (pB true) }, { dst := some 53, pv := (.tup []), box := some (800, (151, (c_79 b q))) }] p_6 p_6 ?_ ?_
  ·refine .sk 5 ?_
   refine .cons (fun E A => OpStep.plain rfl (Step.tb 43 (decide (q.f1 ≠ 0)) hb10 (Step.bd 43 (A.g 42) rfl (Bin.neq (k := .i64) (a := q.f1) (b := 0))))) ?_
   refine .sk 9 ?_
   refine .cons (fun E A => OpStep.plain rfl (Step.callXX2 (b := 800) (xs := [.tmp 38, .tmp 52, .const (.int .i64 7)]) (ps := [(.one (.ptr 800 0)), (pB true), (pI 7)]) (bps := (c_72 b q)) (ss := []) (g := .func 115) (t := 53) (ok_impl_reader__must b q true 7 p_3 p_0) rfl rfl p_21 rfl p_6 (evs_cons (A.g 38) (evs_cons (A.g 52) (evs_cons rfl (rfl)))) (.cons (.bx) (.cons (.rd (.one (.d _))) (.cons (.rd (.one (.d _))) .nil))) (A.b 800 (x := (151, _))) (.rd (.rd (.rd .nil))) rfl (handX_fresh (fun x_ hx_ => A.fresh x_ (by exact hx_))) (fun x hx => by have := hp x hx; omega) rfl p_109)) ?_
   exact .nil _ _
  refine TL.wk [(4, (.one (.ptr 4 0))), (5, (.one (.ptr 5 0)))] [(7010, (5, (.ints .u8 (af l b s).2.f3))), (8010, (5, (.ints .u8 (af l b s).2.f4))), (11010, (5, (.ints .u8 (af l b s).2.f5.f2))), (12010, (5, (.ints .u8 (af l b s).2.f5.f3))), (13010, (24, (.bss (af l b s).2.f5.f4))), (100510, (24, (.bss ts)))] [(800, (151, (c_79 b q))), (2, (46, (c_3 l))), (4, (33, c_19)), (5, (33, (c_4 b l s)))] ?_
  refine TL.nil ?_
  refine T.sr [] [(4, (33, (c_4 b l s)))] ?_
  refine T.ret ?_
  exact p_132
 have hb10' := hb10
 replace hb10' := of_decide_eq_false hb10'
 have nn11 := treeRoot_len ts
 have nn12 := treeRoot_u8 ts
 refine T.drawX [{ dst := some 38, pv := (.one (.ptr 800 0)) }, { dst := some 39, pv := (.one (.ptr 800 0)) }, { dst := some 40, pv := (.one (.ptr 800 0)) }, { dst := some 41, pv := (.one (.ptr 800 2)) }, { dst := some 42, pv := (pI q.f1) }, { dst := some 43, pv := (pB false) }, { dst := some 44, pv := (pB false) }, { dst := some 45, pv := (.one (.ptr 5 0)) }, { dst := some 46, pv := (.one (.ptr 5 4)) }, { dst := some 47, pv := (.one (.row 8010 [])) }, { dst := some 48, pv := (.one (.ptr 5 10)) }, { dst := some 49, pv := (.one (.row 100510 [])) }, { dst := some 50, pv := (.one (.row 1050 [])), rows := [(1050, (5, (.ints .u8 (aj ts))))] }, { dst := some 51, pv := (pB (decide ((af l b s).2.f4 = (aj ts)))) }, { dst := some 52, pv := (pB (decide ((af l b s).2.f4 = (aj ts)))) }, { dst := some 53, pv := (.tup []), box := some (800, (151, (c_25 b l q s ts))) }] p_6 p_6 ?_ ?_
 ·refine .sk 5 ?_
  refine .cons (fun E A => OpStep.plain rfl (Step.tb 43 (decide (q.f1 ≠ 0)) hb10 (Step.bd 43 (A.g 42) rfl (Bin.neq (k := .i64) (a := q.f1) (b := 0))))) ?_
  refine .sk 6 ?_
  refine .cons (fun E A => OpStep.yes (t := 44) rfl rfl (lt_ok rfl) (A.g 44) (Step.call (f := 119) (xs := [.tmp 49]) (ps := [(.one (.row 100510 []))]) false (g := .func 119) (t := 50) rfl rfl p_21 rfl p_6 (evs_cons (A.g 49) (rfl)) (.cons (.one (.row rfl (A.r 100510 (x := (24, _))) rfl rfl)) .nil) (ok_impl_TreeRoot ts p_88 p_85) (.inr rfl) (AtX.frs A) (fun x hx => by have := hp x hx; omega) rfl)) ?_
  refine .cons (fun E A => OpStep.yes (t := 44) rfl rfl (lt_ok rfl) (A.g 44) (Step.call (f := 118) (xs := [.tmp 47, .tmp 50]) (ps := [(.one (.row 8010 [])), (.one (.row 1050 []))]) false (g := .func 118) (t := 51) rfl rfl p_21 rfl p_6 (evs_cons (A.g 47) (evs_cons (A.g 50) (rfl))) (.cons (.one (.row rfl (A.r 8010 (x := (5, _))) rfl rfl)) (.cons (.one (.row rfl (A.r 1050 (x := (5, _))) rfl rfl)) .nil)) (ok_impl_SameBytes (af l b s).2.f4 (aj ts) p_106 p_106) (.inr rfl) (AtX.frs A) (fun x hx => by have := hp x hx; omega) rfl)) ?_
  refine .sk 1 ?_
  refine .cons (fun E A => OpStep.plain rfl (Step.callXX2 (b := 800) (xs := [.tmp 38, .tmp 52, .const (.int .i64 7)]) (ps := [(.one (.ptr 800 0)), (pB (decide ((af l b s).2.f4 = (aj ts)))), (pI 7)]) (bps := (c_72 b q)) (ss := []) (g := .func 115) (t := 53) (ok_impl_reader__must b q (decide ((af l b s).2.f4 = (aj ts))) 7 p_3 p_0) rfl rfl p_21 rfl p_6 (evs_cons (A.g 38) (evs_cons (A.g 52) (evs_cons rfl (rfl)))) (.cons (.bx) (.cons (.rd (.one (.d _))) (.cons (.rd (.one (.d _))) .nil))) (A.b 800 (x := (151, _))) (.rd (.rd (.rd .nil))) rfl (handX_fresh (fun x_ hx_ => A.fresh x_ (by exact hx_))) (fun x hx => by have := hp x hx; omega) rfl p_109)) ?_
  exact .nil _ _
 refine TL.wk [(4, (.one (.ptr 4 0))), (5, (.one (.ptr 5 0)))] [(7010, (5, (.ints .u8 (af l b s).2.f3))), (8010, (5, (.ints .u8 (af l b s).2.f4))), (11010, (5, (.ints .u8 (af l b s).2.f5.f2))), (12010, (5, (.ints .u8 (af l b s).2.f5.f3))), (13010, (24, (.bss (af l b s).2.f5.f4))), (100510, (24, (.bss ts))), (1050, (5, (.ints .u8 (aj ts))))] [(800, (151, (c_25 b l q s ts))), (2, (46, (c_3 l))), (4, (33, c_19)), (5, (33, (c_4 b l s)))] ?_
 refine TL.nil ?_
 refine T.sr [] [(4, (33, (c_4 b l s)))] ?_
 refine T.ret ?_
 exact p_132
theorem ok_impl_Block_ (l : SLimits) (b : List Int) (a : Int) (h0_ : U8s b) (h1_ : b.length ≤ 1048576) : RO Tryz.prog 78 [.agg l.cells, .one (.ints .u8 b), .one (.int .i64 a), .one (.fn 79)] [(true, [.rd (.int .i64 (ar l b a).1.f0.f0), .rd (.int .i64 (ar l b a).1.f0.f1), .rd (.int .i64 (ar l b a).1.f0.f2), .own 5 (.ints .u8 (ar l b a).1.f0.f3), .own 5 (.ints .u8 (ar l b a).1.f0.f4), .rd (.int .i64 (ar l b a).1.f0.f5.f0), .rd (.int .i64 (ar l b a).1.f0.f5.f1), .own 5 (.ints .u8 (ar l b a).1.f0.f5.f2), .own 5 (.ints .u8 (ar l b a).1.f0.f5.f3), .own 24 (.bss (ar l b a).1.f0.f5.f4), .own 24 (.bss (ar l b a).1.f1)]), (false, [.rd (.int .i64 (ar l b a).2.1)]), (false, [.rd (.int .i64 (ar l b a).2.2)])] := by
 refine RO.intro Tryz.func78 rfl 41 rfl (le_ok rfl) fun w Z => ?_
 refine T.bnd 1 0 rfl rfl fun hb_1_0 => ?_
 simp only [D.size, List.length_map] at hb_1_0
 refine T.sr [(4, (.one (.ptr 4 0))), (8, (.one (.ptr 8 0))), (9, (pI 0)), (10, (pI 0))] [(4, (46, (c_3 l))), (8, (33, c_19))] ?_
 refine T.sr [(11, (.one (.ptr 11 0)))] [(11, (33, c_19))] ?_
 refine T.seq (T.sg ?_)
 refine TL.rx 1 [(14, (.agg (c_3 l)))] [] ?_
 refine TL.c (Step.cz (ok_impl_LimitsOk l)) ?_
 refine TL.rl [(16, (pB (!(limOk l))))] [] ?_
 refine T.cn rfl (fun h1 => ?_) (fun h1 => ?_)
 ·refine T.sr [(9, (pI 0)), (10, (pI 5))] [(8, (33, c_19))] ?_
  refine T.ret ?_
  exact p_154
 refine T.skip ?_
 refine T.sr [(12, (.one (.ptr 21 0)))] [(21, (151, [cS b, cI a, cI 0]))] ?_
 refine T.sg ?_
 refine TL.rx 3 [(22, (.one (.d (.fn 79)))), (23, (.agg (c_3 l))), (24, (.one (.ptr 21 0)))] [] ?_
 have nn2 := @rdBlock_sm l b (⟨a, 0⟩ : SRS) p_60 (by first | assumption | exact rs0_zb | exact fun _ => by assumption)
 refine TL.c (Step.x2 21 (ok_impl_readBlock b (⟨a, 0⟩ : SRS) l p_3 p_0 p_3)) ?_
 refine TL.rl [(13, (.one (.ptr 13 0)))] [(13, (33, (c_11 a b l)))] ?_
 refine T.seq ?_
 refine T.sr [(30, (pB (decide ((am l b (⟨a, 0⟩ : SRS)).1.f1 ≠ 0))))] [] ?_
 refine T.ci rfl (fun h3 => ?_) (fun h3 => ?_)
 ·refine T.seq ?_
  refine T.drawX [{ dst := some 31, pv := (.agg c_19) }, { dst := some 32, pv := (.one (.ptr 21 0)) }, { dst := some 33, pv := (.one (.ptr 21 0)) }, { dst := some 34, pv := (.one (.ptr 21 2)) }, { dst := some 35, pv := (pI (am l b (⟨a, 0⟩ : SRS)).1.f1) }, { box := some (8, (33, c_19)) }, { dst := some 9, pv := (pI 0) }, { dst := some 10, pv := (pI (am l b (⟨a, 0⟩ : SRS)).1.f1) }] p_6 p_6 ?_ ?_
  ·refine .sk 8 ?_
   exact .nil _ _
  refine TL.wk [(8, (.one (.ptr 8 0))), (9, (pI 0)), (10, (pI (am l b (⟨a, 0⟩ : SRS)).1.f1)), (12, (.one (.ptr 21 0))), (13, (.one (.ptr 13 0)))] [(7025, (5, (.ints .u8 (am l b (⟨a, 0⟩ : SRS)).2.f0.f3))), (8025, (5, (.ints .u8 (am l b (⟨a, 0⟩ : SRS)).2.f0.f4))), (11025, (5, (.ints .u8 (am l b (⟨a, 0⟩ : SRS)).2.f0.f5.f2))), (12025, (5, (.ints .u8 (am l b (⟨a, 0⟩ : SRS)).2.f0.f5.f3))), (13025, (24, (.bss (am l b (⟨a, 0⟩ : SRS)).2.f0.f5.f4))), (14025, (24, (.bss (am l b (⟨a, 0⟩ : SRS)).2.f1)))] [(4, (46, (c_3 l))), (8, (33, c_19)), (11, (33, c_19)), (21, (151, [cS b, cI (am l b (⟨a, 0⟩ : SRS)).1.f0, cI (am l b (⟨a, 0⟩ : SRS)).1.f1])), (13, (33, (c_11 a b l)))] ?_
  refine TL.nil (T.ret ?_)
  exact p_154
 refine T.skip (T.seq ?_)
 refine T.drawX [{ dst := some 36, pv := (.agg (c_11 a b l)) }, { dst := some 37, pv := (.one (.ptr 21 0)) }, { dst := some 38, pv := (.one (.ptr 21 0)) }, { dst := some 39, pv := (.one (.ptr 21 1)) }, { dst := some 40, pv := (pI (am l b (⟨a, 0⟩ : SRS)).1.f0) }, { box := some (8, (33, (c_11 a b l))) }, { dst := some 9, pv := (pI (am l b (⟨a, 0⟩ : SRS)).1.f0) }, { dst := some 10, pv := (pI 0) }] p_6 p_6 ?_ ?_
 ·refine .sk 8 ?_
  exact .nil _ _
 refine TL.wk [(8, (.one (.ptr 8 0))), (9, (pI (am l b (⟨a, 0⟩ : SRS)).1.f0)), (10, (pI 0))] [(7025, (5, (.ints .u8 (am l b (⟨a, 0⟩ : SRS)).2.f0.f3))), (8025, (5, (.ints .u8 (am l b (⟨a, 0⟩ : SRS)).2.f0.f4))), (11025, (5, (.ints .u8 (am l b (⟨a, 0⟩ : SRS)).2.f0.f5.f2))), (12025, (5, (.ints .u8 (am l b (⟨a, 0⟩ : SRS)).2.f0.f5.f3))), (13025, (24, (.bss (am l b (⟨a, 0⟩ : SRS)).2.f0.f5.f4))), (14025, (24, (.bss (am l b (⟨a, 0⟩ : SRS)).2.f1)))] [(4, (46, (c_3 l))), (8, (33, (c_11 a b l))), (11, (33, c_19)), (21, (151, [cS b, cI (am l b (⟨a, 0⟩ : SRS)).1.f0, cI (am l b (⟨a, 0⟩ : SRS)).1.f1])), (13, (33, (c_11 a b l)))] ?_
 refine TL.nil (T.ret ?_)
 refine ⟨_, (.cons rfl (.cons rfl (.cons rfl .nil))), rfl, _, (.r ?_ (.r ?_ (.r ?_ (.o ?_ (.o ?_ (.r ?_ (.r ?_ (.o ?_ (.o ?_ (.o ?_ (.o ?_ (.r ?_ (.r ?_ .nil)))))))))))))⟩ <;> exact p_26
theorem ok_impl_GetBlock (l : SLimits) (b : List Int) (a : Int) (h0_ : U8s b) (h1_ : b.length ≤ 1048576) : RO Tryz.prog 31 [.agg l.cells, .one (.ints .u8 b), .one (.int .i64 a)] [(true, [.rd (.int .i64 (ar l b a).1.f0.f0), .rd (.int .i64 (ar l b a).1.f0.f1), .rd (.int .i64 (ar l b a).1.f0.f2), .own 5 (.ints .u8 (ar l b a).1.f0.f3), .own 5 (.ints .u8 (ar l b a).1.f0.f4), .rd (.int .i64 (ar l b a).1.f0.f5.f0), .rd (.int .i64 (ar l b a).1.f0.f5.f1), .own 5 (.ints .u8 (ar l b a).1.f0.f5.f2), .own 5 (.ints .u8 (ar l b a).1.f0.f5.f3), .own 24 (.bss (ar l b a).1.f0.f5.f4), .own 24 (.bss (ar l b a).1.f1)]), (false, [.rd (.int .i64 (ar l b a).2.1)]), (false, [.rd (.int .i64 (ar l b a).2.2)])] := by
 refine RO.intro Tryz.func31 rfl 16 rfl (le_ok rfl) fun w Z => ?_
 refine T.bnd 1 0 rfl rfl fun hb_1_0 => ?_
 simp only [D.size, List.length_map] at hb_1_0
 refine T.sr [(3, (.one (.ptr 3 0))), (6, (.one (.ptr 6 0))), (7, (pI 0)), (8, (pI 0))] [(3, (46, (c_3 l))), (6, (33, c_19))] ?_
 refine T.sg ?_
 refine TL.rx 3 [(9, (.agg (c_3 l))), (10, (pS b)), (11, (pI a))] [] ?_
 have nn1 := @getBlock_sm l b a p_60
 refine TL.c (Step.cz (ok_impl_Block_ l b a p_3 p_0)) ?_
 refine TL.rl [(7, (pI (ar l b a).2.1)), (8, (pI (ar l b a).2.2))] [(6, (33, [cI (ar l b a).1.f0.f0, cI (ar l b a).1.f0.f1, cI (ar l b a).1.f0.f2, .row 4012 [], .row 5012 [], cI (ar l b a).1.f0.f5.f0, cI (ar l b a).1.f0.f5.f1, .row 8012 [], .row 9012 [], .row 10012 [], .row 11012 []]))] ?_
 refine T.ret ?_
 refine ⟨_, (.cons rfl (.cons rfl (.cons rfl .nil))), rfl, _, (.r rfl (.r rfl (.r rfl (.o ?_ (.o ?_ (.r rfl (.r rfl (.o ?_ (.o ?_ (.o ?_ (.o ?_ (.r rfl (.r rfl .nil)))))))))))))⟩ <;> exact p_122
theorem ok_impl_readTc (b : List Int) (s : SRS) (l : SLimits) (h0_ : U8s b) (h1_ : b.length ≤ 1048576) (h2_ : limOk l = true) : BX Tryz.prog 81 [.rd (.agg [(.int .i64 l.f0), (.int .i64 l.f1), (.int .i64 l.f2), (.int .i64 l.f3), (.int .i64 l.f4)]), .bx] 151 [.rd (.ints .u8 b), .rd (.int .i64 s.f0), .rd (.int .i64 s.f1)] [.rd (.ints .u8 b), .rd (.int .i64 (rdTc l b s).1.f0), .rd (.int .i64 (rdTc l b s).1.f1)] [(true, [.rd (.int .i64 (rdTc l b s).2.f0), .own 111 (.sl 3 ((rdTc l b s).2.f1.map SEntry.cells))])] := by
 refine BX.intro Tryz.func81 rfl 58 rfl (le_ok rfl) (le_ok rfl) fun w Z IX pin hp => ?_
 have hn_ := limOk_n h2_
 have hb1_ := @ay b h0_ (ab b s).1
 have hb2_ : (rdTc1 l b s).2 = (ab b (ab b s).1).2 := rfl
 have hb3_ : (ai b (ab b s).1 (l.f0 + 1) 3).2 = (rdTc1 l b s).2 := rfl
 refine T.sr [(2, (.one (.ptr 2 0))), (4, (.one (.ptr 4 0)))] [(2, (46, (c_3 l))), (4, (36, [cI 0, .nil]))] ?_
 refine T.sg ?_
 refine TL.rx 1 [(10, (.one (.ptr 800 0)))] [] ?_
 have nn1 := @ay b p_3 s
 refine TL.c (Step.x2 800 (ok_impl_reader__num b s p_3 p_0)) ?_
 refine TL.rl [(5, (.one (.ptr 5 0)))] [(5, (36, [cI (ab b s).2, .nil]))] ?_
 refine T.sg ?_
 refine TL.rx 3 [(13, (.one (.ptr 800 0))), (15, (pI l.f0))] [] ?_
 refine TL.ad (l.f0 + 1) ?_
 have nn2 := @ay b p_3 (ab b s).1
 refine TL.c (Step.x2 800 (ok_impl_reader__below b (ab b s).1 (l.f0 + 1) 3 p_3 p_0)) ?_
 refine TL.rl [(6, (pI (ai b (ab b s).1 (l.f0 + 1) 3).2)), (7, (pI (-1)))] [] ?_
 refine T.seq ?_
 refine T.sr [(8, (pI 0))] [] ?_
 refine T.block ?_
 refine T.nilrow 5 1 100501 111 36 (.sl 3 []) [cI (ab b s).2, .nil] rfl rfl rfl (fun x hx => by have := hp x hx; omega) rfl rfl (D.wf_nil _) ?_
 refine T.loop (ι := Nat × SRS × Int × (List SEntry)) (fun xx_ => { tm := [(1, (.one (.ptr 800 0))), (2, (.one (.ptr 2 0))), (4, (.one (.ptr 4 0))), (5, (.one (.ptr 5 0))), (6, (pI (ai b (ab b s).1 (l.f0 + 1) 3).2)), (8, (pI ((xx_.1) : Int))), (7, (pI (xx_.2.2.1)))], rows := [(100501, (111, (.sl 3 ((xx_.2.2.2).map SEntry.cells))))], boxes := [(800, (151, [cS b, cI (xx_.2.1).f0, cI (xx_.2.1).f1])), (2, (46, (c_3 l))), (4, (36, [cI 0, .nil])), (5, (36, (c_71 b s)))] }) (fun xx_ => ((xx_.1) : Int) ≤ (rdTc1 l b s).2 ∧ ((xx_.2.1).f1 = 0 → (rdTc1 l b s).2 ≤ 10) ∧ (xx_.2.2.2).length = (xx_.1) ∧ rdEs l b (ab b s).2 ((rdTc1 l b s).2.toNat - (xx_.1)) (xx_.2.1) (xx_.2.2.1) (xx_.2.2.2) = rdEs l b (ab b s).2 (rdTc1 l b s).2.toNat (rdTc1 l b s).1 (-1) []) (fun xx_ => ((rdTc1 l b s).2).toNat - (xx_.1)) (0, (ai b (ab b s).1 (l.f0 + 1) 3).1, (-1), []) ?_ ?_ ?_
 · refine Env.le_mk ⟨rfl, rfl, rfl, rfl, rfl, ?_, ?_, trivial⟩ ⟨?_, trivial⟩ ⟨?_, rfl, rfl, rfl, trivial⟩ <;> exact p_22
 · (dsimp only; refine ⟨by omega, fun h_ => by first | exact rdTc1_z (fun _ => h2_) h_ | omega, rfl, rfl⟩)
 intro xx_ hx
 obtain ⟨i, q, la, es⟩ := xx_
 try dsimp only at hx ⊢
 obtain ⟨hx1, hx2, hx3, hx4⟩ := hx
 refine T.seq (T.sg ?_)
 refine TL.rx 4 [(21, (pB (decide ((i : Int) < (ai b (ab b s).1 (l.f0 + 1) 3).2))))] [] ?_
 rcases Bool.eq_false_or_eq_true (decide ((i : Int) < (ai b (ab b s).1 (l.f0 + 1) 3).2)) with hb3 | hb3
 ·refine TL.known 21 hb3 rfl ?_
  have hb3' := hb3
  replace hb3' := of_decide_eq_true hb3'
  refine TL.rl [(27, (pB (decide (q.f1 = 0))))] [] ?_
  refine T.ci rfl (fun h4 => ?_) (fun h4 => ?_)
  ·refine T.skip (T.seq (T.block (T.sg ?_)))
   refine TL.rx 3 [(30, (.one (.ptr 800 0))), (32, (pI l.f0))] [] ?_
   have nn5 := @ay b p_3 q
   refine TL.c (Step.x2 800 (ok_impl_reader__below b q l.f0 5 p_3 p_0)) ?_
   refine TL.rl [(9, (.one (.ptr 9 0)))] [(9, (111, [cI (ai b q l.f0 5).2, cI 0, .nil]))] ?_
   refine T.sg ?_
   refine TL.rx 5 [(35, (.one (.ptr 800 0))), (39, (pB (decide (la < (ai b q l.f0 5).2))))] [] ?_
   refine TL.c (Step.x2 800 (ok_impl_reader__must b (ai b q l.f0 5).1 (decide (la < (ai b q l.f0 5).2)) 6 p_3 p_0)) ?_
   refine TL.nil ?_
   refine T.sr [(7, (pI (ai b q l.f0 5).2))] [] ?_
   refine T.sg ?_
   refine TL.rx 3 [(43, (.one (.ptr 800 0))), (45, (pI (ab b s).2))] [] ?_
   have nn6 := @ay b p_3 (ac (ai b q l.f0 5).1 (decide (la < (ai b q l.f0 5).2)) 6)
   refine TL.c (Step.x2 800 (ok_impl_reader__below b (ac (ai b q l.f0 5).1 (decide (la < (ai b q l.f0 5).2)) 6) (ab b s).2 6 p_3 p_0)) ?_
   refine TL.rl [] [(9, (111, [cI (ai b q l.f0 5).2, cI (ai b (ac (ai b q l.f0 5).1 (decide (la < (ai b q l.f0 5).2)) 6) (ab b s).2 6).2, .nil]))] ?_
   refine T.sg ?_
   refine TL.rx 1 [(48, (.one (.ptr 800 0)))] [] ?_
   have nn7 := rdRaw_len b (ai b (ac (ai b q l.f0 5).1 (decide (la < (ai b q l.f0 5).2)) 6) (ab b s).2 6).1 32
   refine TL.c (Step.x2 800 (ok_impl_reader__hash b (ai b (ac (ai b q l.f0 5).1 (decide (la < (ai b q l.f0 5).2)) 6) (ab b s).2 6).1 p_3 p_0)) ?_
   refine TL.rl [] [(9, (111, (c_51 b l la q s)))] ?_
   refine T.region ?_
   refine TL.rx 3 [(52, (.one (.row 100501 []))), (53, (.agg (c_51 b l la q s)))] [] ?_
   refine TL.c (Step.lit (e := 111) (z := 3) (by_ := 40) (xs := [.tmp 53]) (pss := [(c_51 b l la q s)]) (es := [(.int .i64 (ai b q l.f0 5).2), (.int .i64 (ai b (ac (ai b q l.f0 5).1 (decide (la < (ai b q l.f0 5).2)) 6) (ab b s).2 6).2), (.ints .u8 (ae b (ai b (ac (ai b q l.f0 5).1 (decide (la < (ai b q l.f0 5).2)) 6) (ab b s).2 6).1 32).2)]) (ss := [4049]) (d := (.sl 3 ([(⟨(ai b q l.f0 5).2, (ai b (ac (ai b q l.f0 5).1 (decide (la < (ai b q l.f0 5).2)) 6) (ab b s).2 6).2, (ae b (ai b (ac (ai b q l.f0 5).1 (decide (la < (ai b q l.f0 5).2)) 6) (ab b s).2 6).1 32).2⟩ : SEntry)].map SEntry.cells))) rfl rfl (lt_ok rfl) p_6 rfl rfl (.cons rfl .nil) p_104 (le_ok rfl) (le_ok rfl) rfl (.val rfl (.val rfl (.row rfl p_104 .nil))) rfl p_104 (fun x hx => by have := hp x hx; omega) rfl (wf_map SEntry.len _) rfl rfl) ?_
   refine TL.c (Step.ap 111 3 40 (.sl 3 ([(⟨(ai b q l.f0 5).2, (ai b (ac (ai b q l.f0 5).1 (decide (la < (ai b q l.f0 5).2)) 6) (ab b s).2 6).2, (ae b (ai b (ac (ai b q l.f0 5).1 (decide (la < (ai b q l.f0 5).2)) 6) (ab b s).2 6).1 32).2⟩ : SEntry)].map SEntry.cells)) (.sl 3 ((es ++ [(⟨(ai b q l.f0 5).2, (ai b (ac (ai b q l.f0 5).1 (decide (la < (ai b q l.f0 5).2)) 6) (ab b s).2 6).2, (ae b (ai b (ac (ai b q l.f0 5).1 (decide (la < (ai b q l.f0 5).2)) 6) (ab b s).2 6).1 32).2⟩ : SEntry)]).map SEntry.cells)) (.move rfl)) ?_
   refine TL.rl [] [(5, (36, (c_71 b s)))] ?_
   refine T.region ?_
   refine TL.rx 1 [(28, (pI (i : Int)))] [] ?_
   refine TL.ad ((i : Int) + 1) ?_
   refine TL.rl [(8, (pI ((i : Int) + 1)))] [] ?_
   refine ⟨(i + 1, (ae b (ai b (ac (ai b q l.f0 5).1 (decide (la < (ai b q l.f0 5).2)) 6) (ab b s).2 6).1 32).1, (ai b q l.f0 5).2, (es ++ [(⟨(ai b q l.f0 5).2, (ai b (ac (ai b q l.f0 5).1 (decide (la < (ai b q l.f0 5).2)) 6) (ab b s).2 6).2, (ae b (ai b (ac (ai b q l.f0 5).1 (decide (la < (ai b q l.f0 5).2)) 6) (ab b s).2 6).1 32).2⟩ : SEntry)])), by (try dsimp only); (refine ⟨by omega, fun _ => by omega, by simp only [List.length_append, List.length_cons, List.length_nil]; first | done | omega, ?_⟩; exact (rdEs_next p_4 p_4).symm.trans hx4), by (dsimp only; omega), Env.le_mk ⟨rfl, rfl, rfl, rfl, rfl, ?_, ?_, trivial⟩ ⟨?_, trivial⟩ ⟨?_, rfl, rfl, rfl, trivial⟩⟩ <;> exact p_22
  refine T.exit ?_
  refine T.sr [] [(4, (36, (c_71 b s)))] ?_
  refine T.ret ?_
  exact p_144
 refine TL.known 21 hb3 rfl ?_
 have hb3' := hb3
 replace hb3' := of_decide_eq_false hb3'
 refine TL.rl [(27, (pB false))] [] ?_
 refine T.cf (T.exit ?_)
 refine T.sr [] [(4, (36, (c_71 b s)))] ?_
 refine T.ret ?_
 exact p_144
theorem ok_impl_Tc_ (l : SLimits) (b : List Int) (a : Int) (h0_ : U8s b) (h1_ : b.length ≤ 1048576) : RO Tryz.prog 80 [.agg l.cells, .one (.ints .u8 b), .one (.int .i64 a), .one (.fn 81)] [(true, [.rd (.int .i64 (getTc l b a).1.f0), .own 111 (.sl 3 ((getTc l b a).1.f1.map SEntry.cells))]), (false, [.rd (.int .i64 (getTc l b a).2.1)]), (false, [.rd (.int .i64 (getTc l b a).2.2)])] := by
 refine RO.intro Tryz.func80 rfl 41 rfl (le_ok rfl) fun w Z => ?_
 refine T.bnd 1 0 rfl rfl fun hb_1_0 => ?_
 simp only [D.size, List.length_map] at hb_1_0
 refine T.sr [(4, (.one (.ptr 4 0))), (8, (.one (.ptr 8 0))), (9, (pI 0)), (10, (pI 0))] [(4, (46, (c_3 l))), (8, (36, [cI 0, .nil]))] ?_
 refine T.sr [(11, (.one (.ptr 11 0)))] [(11, (36, [cI 0, .nil]))] ?_
 refine T.seq (T.sg ?_)
 refine TL.rx 1 [(14, (.agg (c_3 l)))] [] ?_
 refine TL.c (Step.cz (ok_impl_LimitsOk l)) ?_
 refine TL.rl [(16, (pB (!(limOk l))))] [] ?_
 refine T.cn rfl (fun h1 => ?_) (fun h1 => ?_)
 ·refine T.sr [(9, (pI 0)), (10, (pI 5))] [(8, (36, [cI 0, .nil]))] ?_
  refine T.ret ?_
  exact p_166
 refine T.skip ?_
 refine T.sr [(12, (.one (.ptr 21 0)))] [(21, (151, [cS b, cI a, cI 0]))] ?_
 refine T.sg ?_
 refine TL.rx 3 [(22, (.one (.d (.fn 81)))), (23, (.agg (c_3 l))), (24, (.one (.ptr 21 0)))] [] ?_
 have nn2 := @rdTc_sm l b (⟨a, 0⟩ : SRS) p_60 (by first | assumption | exact rs0_z' | exact fun _ => by assumption)
 refine TL.c (Step.x2 21 (ok_impl_readTc b (⟨a, 0⟩ : SRS) l p_3 p_0 p_3)) ?_
 refine TL.rl [(13, (.one (.ptr 13 0)))] [(13, (36, (c_66 a b l)))] ?_
 refine T.seq ?_
 refine T.sr [(30, (pB (decide ((rdTc l b (⟨a, 0⟩ : SRS)).1.f1 ≠ 0))))] [] ?_
 refine T.ci rfl (fun h3 => ?_) (fun h3 => ?_)
 ·refine T.seq ?_
  refine T.drawX [{ dst := some 31, pv := (.agg [cI 0, .nil]) }, { dst := some 32, pv := (.one (.ptr 21 0)) }, { dst := some 33, pv := (.one (.ptr 21 0)) }, { dst := some 34, pv := (.one (.ptr 21 2)) }, { dst := some 35, pv := (pI (rdTc l b (⟨a, 0⟩ : SRS)).1.f1) }, { box := some (8, (36, [cI 0, .nil])) }, { dst := some 9, pv := (pI 0) }, { dst := some 10, pv := (pI (rdTc l b (⟨a, 0⟩ : SRS)).1.f1) }] p_6 p_6 ?_ ?_
  ·refine .sk 8 ?_
   exact .nil _ _
  refine TL.wk [(8, (.one (.ptr 8 0))), (9, (pI 0)), (10, (pI (rdTc l b (⟨a, 0⟩ : SRS)).1.f1)), (12, (.one (.ptr 21 0))), (13, (.one (.ptr 13 0)))] [(5025, (111, (.sl 3 ((rdTc l b (⟨a, 0⟩ : SRS)).2.f1.map SEntry.cells))))] [(4, (46, (c_3 l))), (8, (36, [cI 0, .nil])), (11, (36, [cI 0, .nil])), (21, (151, [cS b, cI (rdTc l b (⟨a, 0⟩ : SRS)).1.f0, cI (rdTc l b (⟨a, 0⟩ : SRS)).1.f1])), (13, (36, (c_66 a b l)))] ?_
  refine TL.nil (T.ret ?_)
  exact p_166
 refine T.skip (T.seq ?_)
 refine T.drawX [{ dst := some 36, pv := (.agg (c_66 a b l)) }, { dst := some 37, pv := (.one (.ptr 21 0)) }, { dst := some 38, pv := (.one (.ptr 21 0)) }, { dst := some 39, pv := (.one (.ptr 21 1)) }, { dst := some 40, pv := (pI (rdTc l b (⟨a, 0⟩ : SRS)).1.f0) }, { box := some (8, (36, (c_66 a b l))) }, { dst := some 9, pv := (pI (rdTc l b (⟨a, 0⟩ : SRS)).1.f0) }, { dst := some 10, pv := (pI 0) }] p_6 p_6 ?_ ?_
 ·refine .sk 8 ?_
  exact .nil _ _
 refine TL.wk [(8, (.one (.ptr 8 0))), (9, (pI (rdTc l b (⟨a, 0⟩ : SRS)).1.f0)), (10, (pI 0))] [(5025, (111, (.sl 3 ((rdTc l b (⟨a, 0⟩ : SRS)).2.f1.map SEntry.cells))))] [(4, (46, (c_3 l))), (8, (36, (c_66 a b l))), (11, (36, [cI 0, .nil])), (21, (151, [cS b, cI (rdTc l b (⟨a, 0⟩ : SRS)).1.f0, cI (rdTc l b (⟨a, 0⟩ : SRS)).1.f1])), (13, (36, (c_66 a b l)))] ?_
 refine TL.nil (T.ret ?_)
 refine ⟨_, (.cons rfl (.cons rfl (.cons rfl .nil))), rfl, _, (.r ?_ (.o ?_ (.r ?_ (.r ?_ .nil))))⟩ <;> exact p_32
theorem ok_impl_GetTc (l : SLimits) (b : List Int) (a : Int) (h0_ : U8s b) (h1_ : b.length ≤ 1048576) : RO Tryz.prog 32 [.agg l.cells, .one (.ints .u8 b), .one (.int .i64 a)] [(true, [.rd (.int .i64 (getTc l b a).1.f0), .own 111 (.sl 3 ((getTc l b a).1.f1.map SEntry.cells))]), (false, [.rd (.int .i64 (getTc l b a).2.1)]), (false, [.rd (.int .i64 (getTc l b a).2.2)])] := by
 refine RO.intro Tryz.func32 rfl 16 rfl (le_ok rfl) fun w Z => ?_
 refine T.bnd 1 0 rfl rfl fun hb_1_0 => ?_
 simp only [D.size, List.length_map] at hb_1_0
 refine T.sr [(3, (.one (.ptr 3 0))), (6, (.one (.ptr 6 0))), (7, (pI 0)), (8, (pI 0))] [(3, (46, (c_3 l))), (6, (36, [cI 0, .nil]))] ?_
 refine T.sg ?_
 refine TL.rx 3 [(9, (.agg (c_3 l))), (10, (pS b)), (11, (pI a))] [] ?_
 have nn1 := @getTc_sm l b a p_60
 refine TL.c (Step.cz (ok_impl_Tc_ l b a p_3 p_0)) ?_
 refine TL.rl [(7, (pI (getTc l b a).2.1)), (8, (pI (getTc l b a).2.2))] [(6, (36, [cI (getTc l b a).1.f0, .row 2012 []]))] ?_
 refine T.ret ?_
 refine ⟨_, (.cons rfl (.cons rfl (.cons rfl .nil))), rfl, _, (.r rfl (.o ?_ (.r rfl (.r rfl .nil))))⟩ <;> exact p_122
theorem ok_impl_Proof__closes (p : SProof) (h0_ : 1 ≤ p.f0.length) (h1_ : p.f0.length ≤ 1048576) : RO Tryz.prog 120 [.agg p.cells] [(false, [.rd (.bool (closes p))])] := by
 refine RO.intro Tryz.func120 rfl 26 rfl (le_ok rfl) fun w Z => ?_
 refine T.sr [(1, (.one (.ptr 1 0))), (2, (pB false))] [(1, (39, [.d (.sl 10 (p.f0.map SHead.cells)), cI p.f1.f0, cI p.f1.f1, cS p.f1.f2, cS p.f1.f3, .d (.bss p.f1.f4)]))] ?_
 refine T.sg ?_
 refine TL.rx 4 [(5, (.one (.d (.sl 10 (p.f0.map SHead.cells))))), (7, (.one (.d (.sl 10 (p.f0.map SHead.cells)))))] [] ?_
 refine TL.c (Step.len' (e := 31) (z := 10) (d := (.sl 10 (p.f0.map SHead.cells))) (n := p.f0.length) rfl rfl (lt_ok rfl) p_6 rfl rfl p_120) ?_
 refine TL.sb ((p.f0.length : Int) - 1) ?_
 refine TL.c (Step.index (e := 31) (z := 10) (i := ((p.f0.length : Int) - 1)) rfl rfl (lt_ok rfl) p_6 rfl rfl rfl (lt_ok rfl) rfl p_17 p_39) ?_
 refine TL.c (Step.load_agg (n := 10) (cs := (c_8 p)) rfl rfl (lt_ok rfl) p_6 rfl rfl p_34) ?_
 refine TL.rl [(3, (.one (.ptr 3 0)))] [(3, (31, (c_8 p)))] ?_
 refine T.sg ?_
 refine TL.rx 7 [(18, (pB (decide (p.f1.f0 = (p.f0.getD ((p.f0.length : Int) - 1).toNat default).f0))))] [] ?_
 rcases Bool.eq_false_or_eq_true (decide (p.f1.f0 = (p.f0.getD ((p.f0.length : Int) - 1).toNat default).f0)) with hb1 | hb1
 ·refine TL.known 18 hb1 rfl ?_
  refine TL.rl [(2, (pB (decide (p.f1.f1 = (p.f0.getD ((p.f0.length : Int) - 1).toNat default).f1))))] [] ?_
  refine T.ret ?_
  exact p_170
 refine TL.known 18 hb1 rfl ?_
 refine TL.rl [(2, (pB false))] [] ?_
 refine T.ret ?_
 exact p_170
theorem ok_impl_readProof (b : List Int) (s : SRS) (l : SLimits) (h0_ : U8s b) (h1_ : b.length ≤ 1048576) (h2_ : s.f1 = 0 → limOk l = true) : BX Tryz.prog 83 [.rd (.agg [(.int .i64 l.f0), (.int .i64 l.f1), (.int .i64 l.f2), (.int .i64 l.f3), (.int .i64 l.f4)]), .bx] 151 [.rd (.ints .u8 b), .rd (.int .i64 s.f0), .rd (.int .i64 s.f1)] [.rd (.ints .u8 b), .rd (.int .i64 (au l b s).1.f0), .rd (.int .i64 (au l b s).1.f1)] [(true, [.own 31 (.sl 10 ((au l b s).2.f0.map SHead.cells)), .rd (.int .i64 (au l b s).2.f1.f0), .rd (.int .i64 (au l b s).2.f1.f1), .own 5 (.ints .u8 (au l b s).2.f1.f2), .own 5 (.ints .u8 (au l b s).2.f1.f3), .own 24 (.bss (au l b s).2.f1.f4)])] := by
 refine BX.intro Tryz.func83 rfl 57 rfl (le_ok rfl) (le_ok rfl) fun w Z IX pin hp => ?_
 refine T.sr [(2, (.one (.ptr 2 0))), (4, (.one (.ptr 4 0)))] [(2, (46, (c_3 l))), (4, (39, c_40))] ?_
 refine T.sg ?_
 refine TL.rx 2 [(8, (.agg c_40)), (9, (.one (.ptr 800 0)))] [] ?_
 have nn1 := @ay b p_3 s
 refine TL.c (Step.x2 800 (ok_impl_reader__num b s p_3 p_0)) ?_
 refine TL.rl [(5, (.one (.ptr 5 0))), (6, (pI (ab b s).2))] [(5, (39, c_40))] ?_
 refine T.sg ?_
 refine TL.rx 3 [(11, (.one (.ptr 800 0))), (13, (pB (decide (3 ≤ (ab b s).2))))] [] ?_
 refine TL.c (Step.x2 800 (ok_impl_reader__must b (ab b s).1 (decide (3 ≤ (ab b s).2)) 5 p_3 p_0)) ?_
 refine TL.nil (T.sg ?_)
 refine TL.rx 5 [(15, (.one (.ptr 800 0))), (19, (pB (decide ((ab b s).2 ≤ l.f4))))] [] ?_
 refine TL.c (Step.x2 800 (ok_impl_reader__must b (ac (ab b s).1 (decide (3 ≤ (ab b s).2)) 5) (decide ((ab b s).2 ≤ l.f4)) 3 p_3 p_0)) ?_
 refine TL.nil (T.seq ?_)
 refine T.sr [(7, (pI 0))] [] ?_
 refine T.block ?_
 refine T.nilrow 5 0 100500 31 39 (.sl 10 []) c_40 rfl rfl rfl (fun x hx => by have := hp x hx; omega) rfl rfl (D.wf_nil _) ?_
 refine T.loop (ι := Nat × SRS × (List SHead)) (fun xx_ => { tm := [(1, (.one (.ptr 800 0))), (2, (.one (.ptr 2 0))), (4, (.one (.ptr 4 0))), (5, (.one (.ptr 5 0))), (6, (pI (ab b s).2)), (7, (pI ((xx_.1) : Int)))], rows := [(100500, (31, (.sl 10 ((xx_.2.2).map SHead.cells))))], boxes := [(800, (151, [cS b, cI (xx_.2.1).f0, cI (xx_.2.1).f1])), (2, (46, (c_3 l))), (4, (39, c_40)), (5, (39, [.row 100500 [], cI 0, cI 0, .nil, .nil, .nil]))] }) (fun xx_ => ((xx_.1) : Int) ≤ (ab b s).2 ∧ ((xx_.2.1).f1 = 0 → 3 ≤ (ab b s).2 ∧ (ab b s).2 ≤ 5) ∧ (xx_.2.2).length = (xx_.1) ∧ rdHs l b ((ab b s).2.toNat - (xx_.1)) (xx_.2.1) (xx_.2.2) = rdHs l b (ab b s).2.toNat (rdProof0 l b s) []) (fun xx_ => ((ab b s).2).toNat - (xx_.1)) (0, (ac (ac (ab b s).1 (decide (3 ≤ (ab b s).2)) 5) (decide ((ab b s).2 ≤ l.f4)) 3), []) ?_ ?_ ?_
 · refine Env.le_mk ⟨rfl, rfl, rfl, rfl, rfl, ?_, trivial⟩ ⟨?_, trivial⟩ ⟨?_, rfl, rfl, rfl, trivial⟩ <;> exact p_22
 · (dsimp only; refine ⟨by omega, fun h_ => by first | exact rdProof0_z h2_ h_ | omega, rfl, rfl⟩)
 intro xx_ hx
 obtain ⟨i, q, hs⟩ := xx_
 try dsimp only at hx ⊢
 obtain ⟨hx1, hx2, hx3, hx4⟩ := hx
 have hz_ := @rdQc_z l b q
 refine T.seq (T.sg ?_)
 refine TL.rx 4 [(24, (pB (decide ((i : Int) < (ab b s).2))))] [] ?_
 rcases Bool.eq_false_or_eq_true (decide ((i : Int) < (ab b s).2)) with hb2 | hb2
 ·refine TL.known 24 hb2 rfl ?_
  have hb2' := hb2
  replace hb2' := of_decide_eq_true hb2'
  refine TL.rl [(30, (pB (decide (q.f1 = 0))))] [] ?_
  refine T.ci rfl (fun h3 => ?_) (fun h3 => ?_)
  ·refine T.skip (T.seq (T.block ?_))
   have nn4 := @rdHead_sm l b q p_60
   have nn5 := @rdHead_ok l b q p_3
   refine T.drawX [{ dst := some 33, pv := (.one (.ptr 5 0)) }, { dst := some 34, pv := (.one (.row 100500 [])) }, { dst := some 35, pv := (.agg (c_3 l)) }, { dst := some 36, pv := (.one (.ptr 800 0)) }, { dst := some 37, pv := (.agg (c_38 b l q)), rows := [(13037, (24, (.bss (af l b q).2.f5.f4))), (12037, (5, (.ints .u8 (af l b q).2.f5.f3))), (11037, (5, (.ints .u8 (af l b q).2.f5.f2))), (8037, (5, (.ints .u8 (af l b q).2.f4))), (7037, (5, (.ints .u8 (af l b q).2.f3)))], box := some (800, (151, [cS b, cI (af l b q).1.f0, cI (af l b q).1.f1])) }, { dst := some 38, pv := (.one (.row 38 [])), rows := [(38, (31, (.sl 10 ([(af l b q).2].map SHead.cells))))], dead := [7037, 8037, 11037, 12037, 13037] }, { dst := some 39, pv := (.one (.row 500039 [])), rows := [(500039, (31, (.sl 10 ((hs ++ [(af l b q).2]).map SHead.cells))))], dead := [100500, 38] }, { dst := some 40, pv := (.one (.ptr 5 0)) }, { box := some (5, (39, c_81)) }] p_6 p_6 ?_ ?_
   ·refine .sk 4 ?_
    refine .cons (fun E A => OpStep.plain rfl (Step.callXX2 (b := 800) (xs := [.tmp 35, .tmp 36]) (ps := [(.agg (c_3 l)), (.one (.ptr 800 0))]) (bps := (c_72 b q)) (ss := []) (g := .func 77) (t := 37) (ok_impl_readHead b q l p_3 p_0) rfl rfl p_21 rfl p_6 (evs_cons (A.g 35) (evs_cons (A.g 36) (rfl))) (.cons (.rd (.agg (.cons (.d _) (.cons (.d _) (.cons (.d _) (.cons (.d _) (.cons (.d _) .nil))))))) (.cons (.bx) .nil)) (A.b 800 (x := (151, _))) (.rd (.rd (.rd .nil))) rfl (handX_fresh (fun x_ hx_ => A.fresh x_ (by exact hx_))) (fun x hx => by have := hp x hx; omega) rfl p_109)) ?_
    refine .cons (fun E A => OpStep.plain rfl (Step.litX (e := 31) (z := 10) (by_ := 160) (xs := [.tmp 37]) (pss := [(c_38 b l q)]) (es := [(.int .i64 (af l b q).2.f0), (.int .i64 (af l b q).2.f1), (.int .i64 (af l b q).2.f2), (.ints .u8 (af l b q).2.f3), (.ints .u8 (af l b q).2.f4), (.int .i64 (af l b q).2.f5.f0), (.int .i64 (af l b q).2.f5.f1), (.ints .u8 (af l b q).2.f5.f2), (.ints .u8 (af l b q).2.f5.f3), (.bss (af l b q).2.f5.f4)]) (ss := [7037, 8037, 11037, 12037, 13037]) (d := (.sl 10 ([(af l b q).2].map SHead.cells))) (t := 38) rfl rfl p_21 p_6 rfl rfl (.cons p_96 .nil) p_104 (le_ok rfl) (le_ok rfl) A.fn (.val rfl (.val rfl (.val rfl (.row (A.r 7037 (x := (5, _))) p_104 (.row (A.r 8037 (x := (5, _))) p_104 (.val rfl (.val rfl (.row (A.r 11037 (x := (5, _))) p_104 (.row (A.r 12037 (x := (5, _))) p_104 (.row (A.r 13037 (x := (24, _))) p_104 .nil)))))))))) (A.fresh _ (List.mem_singleton.2 rfl)) p_104 (fun x_ hx_ => by have := hp x_ hx_; omega) rfl (wf_map SHead.len _) rfl rfl)) ?_
    refine .cons (fun E A => OpStep.plain rfl (Step.appendX (e := 31) (z := 10) (by_ := 160) (d := (.sl 10 (hs.map SHead.cells))) (dy := (.sl 10 ([(af l b q).2].map SHead.cells))) (d' := (.sl 10 ((hs ++ [(af l b q).2]).map SHead.cells))) (ss := [38]) 500039 (t := 39) rfl rfl p_21 p_6 (A.g 34) (A.r 100500 (x := (31, _))) rfl (lt_ok rfl) (A.g 38) (.move (A.r 38 (x := (31, _)))) p_104 app_sl p_19 p_19 (fun x_ hx_ => by have := hp x_ hx_; omega) (A.fresh _ (List.mem_singleton.2 rfl)) p_104 (fun x_ hx_ => by have := hp x_ hx_; omega))) ?_
    refine .sk 2 ?_
    exact .nil _ _
   refine TL.wk [(1, (.one (.ptr 800 0))), (2, (.one (.ptr 2 0))), (4, (.one (.ptr 4 0))), (5, (.one (.ptr 5 0))), (6, (pI (ab b s).2)), (7, (pI (i : Int)))] [(500039, (31, (.sl 10 ((hs ++ [(af l b q).2]).map SHead.cells))))] [(800, (151, [cS b, cI (af l b q).1.f0, cI (af l b q).1.f1])), (2, (46, (c_3 l))), (4, (39, c_40)), (5, (39, c_81))] ?_
   refine TL.ren 500039 100500 rfl (fun x hx => by have := hp x hx; omega) ?_
   refine TL.nil (T.region ?_)
   refine TL.rx 1 [(31, (pI (i : Int)))] [] ?_
   refine TL.ad ((i : Int) + 1) ?_
   refine TL.rl [(7, (pI ((i : Int) + 1)))] [] ?_
   refine ⟨(i + 1, (af l b q).1, (hs ++ [(af l b q).2])), by (try dsimp only); (refine ⟨by omega, fun _ => by omega, by simp only [List.length_append, List.length_cons, List.length_nil]; first | done | omega, ?_⟩; exact (rdHs_next p_4 p_4).symm.trans hx4), by (dsimp only; omega), Env.le_mk ⟨rfl, rfl, rfl, rfl, rfl, ?_, trivial⟩ ⟨?_, trivial⟩ ⟨?_, rfl, rfl, rfl, trivial⟩⟩ <;> exact p_22
  refine T.exit (T.sg ?_)
  refine TL.rx 2 [(41, (.agg (c_3 l))), (42, (.one (.ptr 800 0)))] [] ?_
  have nn6 := @rdQc_sm l b q p_60
  have nn7 := @rdQc_ok l b q p_3
  refine TL.c (Step.x2 800 (ok_impl_readQc b q l p_3 p_0)) ?_
  refine TL.rl [] [(5, (39, (c_10 b l q)))] ?_
  refine T.sg ?_
  refine TL.rx 7 [(45, (.one (.ptr 800 0))), (51, (pB (decide ((rdQc l b q).1.f1 ≠ 0))))] [] ?_
  rcases Bool.eq_false_or_eq_true (decide ((rdQc l b q).1.f1 ≠ 0)) with hb8 | hb8
  ·refine TL.known 51 hb8 rfl ?_
   have hb8' := hb8
   replace hb8' := of_decide_eq_true hb8'
   refine TL.rx 3 [(54, (pB true))] [] ?_
   refine TL.c (Step.x2 800 (ok_impl_reader__must b (rdQc l b q).1 true 6 p_3 p_0)) ?_
   refine TL.nil ?_
   refine T.sr [] [(4, (39, (c_10 b l q)))] ?_
   refine T.ret ?_
   exact p_133
  refine TL.known 51 hb8 rfl ?_
  have hb8' := hb8
  replace hb8' := of_decide_eq_false hb8'
  refine TL.rx 1 [(52, (.agg (c_10 b l q)))] [] ?_
  refine TL.gy 51 (Step.call (f := 120) (xs := [.tmp 52]) (ps := [(.agg (c_10 b l q))]) false (g := .func 120) rfl rfl (lt_ok rfl) rfl p_6 rfl (.cons (.agg (.cons (.row rfl rfl rfl rfl) (.cons (.d _) (.cons (.d _) (.cons (.row rfl rfl rfl rfl) (.cons (.row rfl rfl rfl rfl) (.cons (.row rfl rfl rfl rfl) .nil))))))) .nil) (ok_impl_Proof__closes (⟨hs, (rdQc l b q).2⟩ : SProof) (by first | omega | assumption | (dsimp only; omega)) (by first | exact s0.1 | omega | (dsimp only; omega))) (.inr rfl) rfl (fun x hx => by have := hp x hx; omega) rfl) ?_
  refine TL.rx 1 [(54, (pB (closes (⟨hs, (rdQc l b q).2⟩ : SProof))))] [] ?_
  refine TL.c (Step.x2 800 (ok_impl_reader__must b (rdQc l b q).1 (closes (⟨hs, (rdQc l b q).2⟩ : SProof)) 6 p_3 p_0)) ?_
  refine TL.nil ?_
  refine T.sr [] [(4, (39, (c_10 b l q)))] ?_
  refine T.ret ?_
  exact p_133
 refine TL.known 24 hb2 rfl ?_
 have hb2' := hb2
 replace hb2' := of_decide_eq_false hb2'
 refine TL.rl [(30, (pB false))] [] ?_
 refine T.cf (T.exit (T.sg ?_))
 refine TL.rx 2 [(41, (.agg (c_3 l))), (42, (.one (.ptr 800 0)))] [] ?_
 have nn9 := @rdQc_sm l b q p_60
 have nn10 := @rdQc_ok l b q p_3
 refine TL.c (Step.x2 800 (ok_impl_readQc b q l p_3 p_0)) ?_
 refine TL.rl [] [(5, (39, (c_10 b l q)))] ?_
 refine T.sg ?_
 refine TL.rx 7 [(45, (.one (.ptr 800 0))), (51, (pB (decide ((rdQc l b q).1.f1 ≠ 0))))] [] ?_
 rcases Bool.eq_false_or_eq_true (decide ((rdQc l b q).1.f1 ≠ 0)) with hb11 | hb11
 ·refine TL.known 51 hb11 rfl ?_
  have hb11' := hb11
  replace hb11' := of_decide_eq_true hb11'
  refine TL.rx 3 [(54, (pB true))] [] ?_
  refine TL.c (Step.x2 800 (ok_impl_reader__must b (rdQc l b q).1 true 6 p_3 p_0)) ?_
  refine TL.nil ?_
  refine T.sr [] [(4, (39, (c_10 b l q)))] ?_
  refine T.ret ?_
  exact p_133
 refine TL.known 51 hb11 rfl ?_
 have hb11' := hb11
 replace hb11' := of_decide_eq_false hb11'
 refine TL.rx 1 [(52, (.agg (c_10 b l q)))] [] ?_
 refine TL.gy 51 (Step.call (f := 120) (xs := [.tmp 52]) (ps := [(.agg (c_10 b l q))]) false (g := .func 120) rfl rfl (lt_ok rfl) rfl p_6 rfl (.cons (.agg (.cons (.row rfl rfl rfl rfl) (.cons (.d _) (.cons (.d _) (.cons (.row rfl rfl rfl rfl) (.cons (.row rfl rfl rfl rfl) (.cons (.row rfl rfl rfl rfl) .nil))))))) .nil) (ok_impl_Proof__closes (⟨hs, (rdQc l b q).2⟩ : SProof) (by first | omega | assumption | (dsimp only; omega)) (by first | exact s0.1 | omega | (dsimp only; omega))) (.inr rfl) rfl (fun x hx => by have := hp x hx; omega) rfl) ?_
 refine TL.rx 1 [(54, (pB (closes (⟨hs, (rdQc l b q).2⟩ : SProof))))] [] ?_
 refine TL.c (Step.x2 800 (ok_impl_reader__must b (rdQc l b q).1 (closes (⟨hs, (rdQc l b q).2⟩ : SProof)) 6 p_3 p_0)) ?_
 refine TL.nil ?_
 refine T.sr [] [(4, (39, (c_10 b l q)))] ?_
 refine T.ret ?_
 exact p_133
theorem ok_impl_Proof_ (l : SLimits) (b : List Int) (a : Int) (h0_ : U8s b) (h1_ : b.length ≤ 1048576) : RO Tryz.prog 82 [.agg l.cells, .one (.ints .u8 b), .one (.int .i64 a), .one (.fn 83)] [(true, [.own 31 (.sl 10 ((getProof l b a).1.f0.map SHead.cells)), .rd (.int .i64 (getProof l b a).1.f1.f0), .rd (.int .i64 (getProof l b a).1.f1.f1), .own 5 (.ints .u8 (getProof l b a).1.f1.f2), .own 5 (.ints .u8 (getProof l b a).1.f1.f3), .own 24 (.bss (getProof l b a).1.f1.f4)]), (false, [.rd (.int .i64 (getProof l b a).2.1)]), (false, [.rd (.int .i64 (getProof l b a).2.2)])] := by
 refine RO.intro Tryz.func82 rfl 41 rfl (le_ok rfl) fun w Z => ?_
 refine T.bnd 1 0 rfl rfl fun hb_1_0 => ?_
 simp only [D.size, List.length_map] at hb_1_0
 refine T.sr [(4, (.one (.ptr 4 0))), (8, (.one (.ptr 8 0))), (9, (pI 0)), (10, (pI 0))] [(4, (46, (c_3 l))), (8, (39, c_40))] ?_
 refine T.sr [(11, (.one (.ptr 11 0)))] [(11, (39, c_40))] ?_
 refine T.seq (T.sg ?_)
 refine TL.rx 1 [(14, (.agg (c_3 l)))] [] ?_
 refine TL.c (Step.cz (ok_impl_LimitsOk l)) ?_
 refine TL.rl [(16, (pB (!(limOk l))))] [] ?_
 refine T.cn rfl (fun h1 => ?_) (fun h1 => ?_)
 ·refine T.sr [(9, (pI 0)), (10, (pI 5))] [(8, (39, c_40))] ?_
  refine T.ret ?_
  exact p_157
 refine T.skip ?_
 refine T.sr [(12, (.one (.ptr 21 0)))] [(21, (151, [cS b, cI a, cI 0]))] ?_
 refine T.sg ?_
 refine TL.rx 3 [(22, (.one (.d (.fn 83)))), (23, (.agg (c_3 l))), (24, (.one (.ptr 21 0)))] [] ?_
 have nn2 := @rdProof_sm l b (⟨a, 0⟩ : SRS) p_60 p_118
 refine TL.c (Step.x2 21 (ok_impl_readProof b (⟨a, 0⟩ : SRS) l p_3 p_0 p_118)) ?_
 refine TL.rl [(13, (.one (.ptr 13 0)))] [(13, (39, (c_36 a b l)))] ?_
 refine T.seq ?_
 refine T.sr [(30, (pB (decide ((au l b (⟨a, 0⟩ : SRS)).1.f1 ≠ 0))))] [] ?_
 refine T.ci rfl (fun h3 => ?_) (fun h3 => ?_)
 ·refine T.seq ?_
  refine T.drawX [{ dst := some 31, pv := (.agg c_40) }, { dst := some 32, pv := (.one (.ptr 21 0)) }, { dst := some 33, pv := (.one (.ptr 21 0)) }, { dst := some 34, pv := (.one (.ptr 21 2)) }, { dst := some 35, pv := (pI (au l b (⟨a, 0⟩ : SRS)).1.f1) }, { box := some (8, (39, c_40)) }, { dst := some 9, pv := (pI 0) }, { dst := some 10, pv := (pI (au l b (⟨a, 0⟩ : SRS)).1.f1) }] p_6 p_6 ?_ ?_
  ·refine .sk 8 ?_
   exact .nil _ _
  refine TL.wk [(8, (.one (.ptr 8 0))), (9, (pI 0)), (10, (pI (au l b (⟨a, 0⟩ : SRS)).1.f1)), (12, (.one (.ptr 21 0))), (13, (.one (.ptr 13 0)))] [(4025, (31, (.sl 10 ((au l b (⟨a, 0⟩ : SRS)).2.f0.map SHead.cells)))), (7025, (5, (.ints .u8 (au l b (⟨a, 0⟩ : SRS)).2.f1.f2))), (8025, (5, (.ints .u8 (au l b (⟨a, 0⟩ : SRS)).2.f1.f3))), (9025, (24, (.bss (au l b (⟨a, 0⟩ : SRS)).2.f1.f4)))] [(4, (46, (c_3 l))), (8, (39, c_40)), (11, (39, c_40)), (21, (151, [cS b, cI (au l b (⟨a, 0⟩ : SRS)).1.f0, cI (au l b (⟨a, 0⟩ : SRS)).1.f1])), (13, (39, (c_36 a b l)))] ?_
  refine TL.nil (T.ret ?_)
  exact p_157
 refine T.skip (T.seq ?_)
 refine T.drawX [{ dst := some 36, pv := (.agg (c_36 a b l)) }, { dst := some 37, pv := (.one (.ptr 21 0)) }, { dst := some 38, pv := (.one (.ptr 21 0)) }, { dst := some 39, pv := (.one (.ptr 21 1)) }, { dst := some 40, pv := (pI (au l b (⟨a, 0⟩ : SRS)).1.f0) }, { box := some (8, (39, (c_36 a b l))) }, { dst := some 9, pv := (pI (au l b (⟨a, 0⟩ : SRS)).1.f0) }, { dst := some 10, pv := (pI 0) }] p_6 p_6 ?_ ?_
 ·refine .sk 8 ?_
  exact .nil _ _
 refine TL.wk [(8, (.one (.ptr 8 0))), (9, (pI (au l b (⟨a, 0⟩ : SRS)).1.f0)), (10, (pI 0))] [(4025, (31, (.sl 10 ((au l b (⟨a, 0⟩ : SRS)).2.f0.map SHead.cells)))), (7025, (5, (.ints .u8 (au l b (⟨a, 0⟩ : SRS)).2.f1.f2))), (8025, (5, (.ints .u8 (au l b (⟨a, 0⟩ : SRS)).2.f1.f3))), (9025, (24, (.bss (au l b (⟨a, 0⟩ : SRS)).2.f1.f4)))] [(4, (46, (c_3 l))), (8, (39, (c_36 a b l))), (11, (39, c_40)), (21, (151, [cS b, cI (au l b (⟨a, 0⟩ : SRS)).1.f0, cI (au l b (⟨a, 0⟩ : SRS)).1.f1])), (13, (39, (c_36 a b l)))] ?_
 refine TL.nil (T.ret ?_)
 refine ⟨_, (.cons rfl (.cons rfl (.cons rfl .nil))), rfl, _, (.o ?_ (.r ?_ (.r ?_ (.o ?_ (.o ?_ (.o ?_ (.r ?_ (.r ?_ .nil))))))))⟩ <;> exact p_27
theorem ok_impl_GetProof (l : SLimits) (b : List Int) (a : Int) (h0_ : U8s b) (h1_ : b.length ≤ 1048576) : RO Tryz.prog 33 [.agg l.cells, .one (.ints .u8 b), .one (.int .i64 a)] [(true, [.own 31 (.sl 10 ((getProof l b a).1.f0.map SHead.cells)), .rd (.int .i64 (getProof l b a).1.f1.f0), .rd (.int .i64 (getProof l b a).1.f1.f1), .own 5 (.ints .u8 (getProof l b a).1.f1.f2), .own 5 (.ints .u8 (getProof l b a).1.f1.f3), .own 24 (.bss (getProof l b a).1.f1.f4)]), (false, [.rd (.int .i64 (getProof l b a).2.1)]), (false, [.rd (.int .i64 (getProof l b a).2.2)])] := by
 refine RO.intro Tryz.func33 rfl 16 rfl (le_ok rfl) fun w Z => ?_
 refine T.bnd 1 0 rfl rfl fun hb_1_0 => ?_
 simp only [D.size, List.length_map] at hb_1_0
 refine T.sr [(3, (.one (.ptr 3 0))), (6, (.one (.ptr 6 0))), (7, (pI 0)), (8, (pI 0))] [(3, (46, (c_3 l))), (6, (39, c_40))] ?_
 refine T.sg ?_
 refine TL.rx 3 [(9, (.agg (c_3 l))), (10, (pS b)), (11, (pI a))] [] ?_
 have nn1 := @getProof_sm l b a p_60
 refine TL.c (Step.cz (ok_impl_Proof_ l b a p_3 p_0)) ?_
 refine TL.rl [(7, (pI (getProof l b a).2.1)), (8, (pI (getProof l b a).2.2))] [(6, (39, [.row 1012 [], cI (getProof l b a).1.f1.f0, cI (getProof l b a).1.f1.f1, .row 4012 [], .row 5012 [], .row 6012 []]))] ?_
 refine T.ret ?_
 refine ⟨_, (.cons rfl (.cons rfl (.cons rfl .nil))), rfl, _, (.o ?_ (.r rfl (.r rfl (.o ?_ (.o ?_ (.o ?_ (.r rfl (.r rfl .nil))))))))⟩ <;> exact p_122
theorem ok_impl_PathLen_r (d_ : Nat) : ∀ (i : Int) (n : Int) (hd_ : n.toNat = d_) , RO Tryz.prog 121 [.one (.int .i64 i), .one (.int .i64 n)] [(false, [.rd (.int .i64 (aw i n))])] := by
 refine Nat.strongRecOn d_ ?_
 intro d_ ih i n hd_ 
 subst hd_
 refine RO.intro Tryz.func121 rfl 36 rfl (le_ok rfl) fun w Z => ?_
 have hsb_ := splitAtT_bd n
 refine T.sr [(4, (pI 0))] [] ?_
 refine T.seq (T.sg ?_)
 refine TL.rx 3 [(8, (pB (decide (n < 2))))] [] ?_
 rcases Bool.eq_false_or_eq_true (decide (n < 2)) with hb1 | hb1
 ·refine TL.known 8 hb1 rfl ?_
  have hb1' := hb1
  replace hb1' := of_decide_eq_true hb1'
  refine TL.rl [(18, (pB true))] [] ?_
  refine T.ct ?_
  refine T.sr [(4, (pI 0))] [] ?_
  refine T.ret ?_
  exact p_140
 refine TL.known 8 hb1 rfl ?_
 have hb1' := hb1
 replace hb1' := of_decide_eq_false hb1'
 refine TL.rx 4 [(12, (pB (decide (1048576 < n))))] [] ?_
 rcases Bool.eq_false_or_eq_true (decide (1048576 < n)) with hb2 | hb2
 ·refine TL.known 12 hb2 rfl ?_
  have hb2' := hb2
  replace hb2' := of_decide_eq_true hb2'
  refine TL.rl [(18, (pB true))] [] ?_
  refine T.ct ?_
  refine T.sr [(4, (pI 0))] [] ?_
  refine T.ret ?_
  exact p_140
 refine TL.known 12 hb2 rfl ?_
 have hb2' := hb2
 replace hb2' := of_decide_eq_false hb2'
 refine TL.rx 2 [(13, (pI i)), (14, (pI n))] [] ?_
 refine TL.gy 12 (Step.bin (r := .int .i64 (n - 1)) rfl rfl (lt_ok rfl) rfl rfl (Bin.sub (a := n) (b := 1) p_99)) ?_
 refine TL.gy 12 (Step.cz (ok_impl_within i 0 (n - 1))) ?_
 refine TL.rl [(18, (pB (!(decide (0 ≤ i ∧ i ≤ (n - 1))))))] [] ?_
 refine T.cni rfl (fun h3 => ?_) (fun h3 => ?_)
 ·refine T.sr [(4, (pI 0))] [] ?_
  refine T.ret ?_
  exact p_140
 refine T.skip (T.sg ?_)
 refine TL.rx 1 [(19, (pI n))] [] ?_
 have nn4 := splitAtT_bd n
 refine TL.c (Step.cz (ok_impl_SplitAt n p_0)) ?_
 refine TL.rl [(5, (pI (ag n)))] [] ?_
 refine T.seq ?_
 refine T.sr [(23, (pB (decide (i < (ag n)))))] [] ?_
 refine T.ci rfl (fun h5 => ?_) (fun h5 => ?_)
 ·refine T.sg ?_
  refine TL.rx 2 [(24, (pI i)), (25, (pI (ag n)))] [] ?_
  have nn6 := pathLenT_bd (i) ((ag n))
  refine TL.c (Step.call (f := 121) (xs := [.tmp 24, .tmp 25]) (ps := [(pI i), (pI (ag n))]) false (g := .func 121) rfl rfl (lt_ok rfl) rfl p_6 rfl (.cons (.one (.d _)) (.cons (.one (.d _)) .nil)) (ih (ag n).toNat p_4 i (ag n) rfl) (.inr rfl) rfl p_104 rfl) ?_
  refine TL.ad (1 + (aw i (ag n))) ?_
  refine TL.rl [(4, (pI (1 + (aw i (ag n)))))] [] ?_
  refine T.ret ?_
  exact p_140
 refine T.skip (T.sg ?_)
 refine TL.rx 2 [(28, (pI i)), (29, (pI (ag n)))] [] ?_
 refine TL.sb (i - (ag n)) ?_
 refine TL.rx 2 [(31, (pI n)), (32, (pI (ag n)))] [] ?_
 refine TL.sb (n - (ag n)) ?_
 have nn7 := pathLenT_bd ((i - (ag n))) ((n - (ag n)))
 refine TL.c (Step.call (f := 121) (xs := [.tmp 30, .tmp 33]) (ps := [(pI (i - (ag n))), (pI (n - (ag n)))]) false (g := .func 121) rfl rfl (lt_ok rfl) rfl p_6 rfl (.cons (.one (.d _)) (.cons (.one (.d _)) .nil)) (ih (n - (ag n)).toNat p_4 (i - (ag n)) (n - (ag n)) rfl) (.inr rfl) rfl p_104 rfl) ?_
 refine TL.ad (1 + (aw (i - (ag n)) (n - (ag n)))) ?_
 refine TL.rl [(4, (pI (1 + (aw (i - (ag n)) (n - (ag n))))))] [] ?_
 refine T.ret ?_
 exact p_140
theorem ok_impl_PathLen (i : Int) (n : Int) : RO Tryz.prog 121 [.one (.int .i64 i), .one (.int .i64 n)] [(false, [.rd (.int .i64 (aw i n))])] := ok_impl_PathLen_r _ i n rfl 
theorem ok_impl_readIncl (b : List Int) (s : SRS) (l : SLimits) (h0_ : U8s b) (h1_ : b.length ≤ 1048576) : BX Tryz.prog 85 [.rd (.agg [(.int .i64 l.f0), (.int .i64 l.f1), (.int .i64 l.f2), (.int .i64 l.f3), (.int .i64 l.f4)]), .bx] 151 [.rd (.ints .u8 b), .rd (.int .i64 s.f0), .rd (.int .i64 s.f1)] [.rd (.ints .u8 b), .rd (.int .i64 (rdIncl l b s).1.f0), .rd (.int .i64 (rdIncl l b s).1.f1)] [(true, [.rd (.int .i64 (rdIncl l b s).2.f0), .rd (.int .i64 (rdIncl l b s).2.f1), .rd (.int .i64 (rdIncl l b s).2.f2), .own 5 (.ints .u8 (rdIncl l b s).2.f3), .own 24 (.bss (rdIncl l b s).2.f4)])] := by
 refine BX.intro Tryz.func85 rfl 54 rfl (le_ok rfl) (le_ok rfl) fun w Z IX pin hp => ?_
 have hb1_ := @ay b h0_ (ab b s).1
 have hp_ := pathLenT_bd (rdI2 l b s).2 (ab b (ab b s).1).2
 have hp2_ : rdIn l b s = (aw (rdI2 l b s).2 (ab b (ab b s).1).2).toNat := rfl
 refine T.sr [(2, (.one (.ptr 2 0))), (4, (.one (.ptr 4 0)))] [(2, (46, (c_3 l))), (4, (41, c_50))] ?_
 refine T.sg ?_
 refine TL.rx 1 [(6, (.one (.ptr 800 0)))] [] ?_
 have nn1 := @ay b p_3 s
 refine TL.c (Step.x2 800 (ok_impl_reader__num b s p_3 p_0)) ?_
 refine TL.rx 1 [(8, (.one (.ptr 800 0)))] [] ?_
 have nn2 := @ay b p_3 (ab b s).1
 refine TL.c (Step.x2 800 (ok_impl_reader__num b (ab b s).1 p_3 p_0)) ?_
 refine TL.rl [(5, (.one (.ptr 5 0)))] [(5, (41, [cI (ab b s).2, cI (ab b (ab b s).1).2, cI 0, .nil, .nil]))] ?_
 refine T.sg ?_
 refine TL.rx 4 [(11, (.one (.ptr 800 0))), (14, (pB (decide (0 < (ab b (ab b s).1).2))))] [] ?_
 refine TL.c (Step.x2 800 (ok_impl_reader__must b (ab b (ab b s).1).1 (decide (0 < (ab b (ab b s).1).2)) 5 p_3 p_0)) ?_
 refine TL.nil (T.sg ?_)
 refine TL.rx 6 [(16, (.one (.ptr 800 0))), (21, (pB (decide ((ab b (ab b s).1).2 ≤ l.f2))))] [] ?_
 refine TL.c (Step.x2 800 (ok_impl_reader__must b (ac (ab b (ab b s).1).1 (decide (0 < (ab b (ab b s).1).2)) 5) (decide ((ab b (ab b s).1).2 ≤ l.f2)) 3 p_3 p_0)) ?_
 refine TL.nil (T.sg ?_)
 refine TL.rx 3 [(23, (.one (.ptr 800 0))), (25, (pI (ab b (ab b s).1).2))] [] ?_
 have nn3 := @ay b p_3 (ac (ac (ab b (ab b s).1).1 (decide (0 < (ab b (ab b s).1).2)) 5) (decide ((ab b (ab b s).1).2 ≤ l.f2)) 3)
 refine TL.c (Step.x2 800 (ok_impl_reader__below b (ac (ac (ab b (ab b s).1).1 (decide (0 < (ab b (ab b s).1).2)) 5) (decide ((ab b (ab b s).1).2 ≤ l.f2)) 3) (ab b (ab b s).1).2 5 p_3 p_0)) ?_
 refine TL.rl [] [(5, (41, [cI (ab b s).2, cI (ab b (ab b s).1).2, cI (ai b (ac (ac (ab b (ab b s).1).1 (decide (0 < (ab b (ab b s).1).2)) 5) (decide ((ab b (ab b s).1).2 ≤ l.f2)) 3) (ab b (ab b s).1).2 5).2, .nil, .nil]))] ?_
 refine T.sg ?_
 refine TL.rx 3 [(28, (.one (.ptr 800 0))), (30, (pI l.f1))] [] ?_
 have nn4 := rdText_len b (ai b (ac (ac (ab b (ab b s).1).1 (decide (0 < (ab b (ab b s).1).2)) 5) (decide ((ab b (ab b s).1).2 ≤ l.f2)) 3) (ab b (ab b s).1).2 5).1 l.f1
 refine TL.c (Step.x2 800 (ok_impl_reader__text b (ai b (ac (ac (ab b (ab b s).1).1 (decide (0 < (ab b (ab b s).1).2)) 5) (decide ((ab b (ab b s).1).2 ≤ l.f2)) 3) (ab b (ab b s).1).2 5).1 l.f1 p_3 p_0)) ?_
 refine TL.rl [] [(5, (41, (c_39 b l s)))] ?_
 refine T.seq ?_
 refine T.sr [(37, (pB (decide ((rdText b (ai b (ac (ac (ab b (ab b s).1).1 (decide (0 < (ab b (ab b s).1).2)) 5) (decide ((ab b (ab b s).1).2 ≤ l.f2)) 3) (ab b (ab b s).1).2 5).1 l.f1).1.f1 = 0))))] [] ?_
 refine T.ci rfl (fun h5 => ?_) (fun h5 => ?_)
 ·refine T.sg ?_
  refine TL.rx 4 [(39, (pI (ai b (ac (ac (ab b (ab b s).1).1 (decide (0 < (ab b (ab b s).1).2)) 5) (decide ((ab b (ab b s).1).2 ≤ l.f2)) 3) (ab b (ab b s).1).2 5).2)), (41, (pI (ab b (ab b s).1).2))] [] ?_
  have nn6 := pathLenT_bd ((ai b (ac (ac (ab b (ab b s).1).1 (decide (0 < (ab b (ab b s).1).2)) 5) (decide ((ab b (ab b s).1).2 ≤ l.f2)) 3) (ab b (ab b s).1).2 5).2) ((ab b (ab b s).1).2)
  refine TL.c (Step.call (f := 121) (xs := [.tmp 39, .tmp 41]) (ps := [(pI (ai b (ac (ac (ab b (ab b s).1).1 (decide (0 < (ab b (ab b s).1).2)) 5) (decide ((ab b (ab b s).1).2 ≤ l.f2)) 3) (ab b (ab b s).1).2 5).2), (pI (ab b (ab b s).1).2)]) false (g := .func 121) rfl rfl (lt_ok rfl) rfl p_6 rfl (.cons (.one (.d _)) (.cons (.one (.d _)) .nil)) (ok_impl_PathLen (ai b (ac (ac (ab b (ab b s).1).1 (decide (0 < (ab b (ab b s).1).2)) 5) (decide ((ab b (ab b s).1).2 ≤ l.f2)) 3) (ab b (ab b s).1).2 5).2 (ab b (ab b s).1).2) (.inr rfl) rfl (fun x hx => by have := hp x hx; omega) rfl) ?_
  refine TL.rl [(43, (pI 0))] [] ?_
  refine T.block ?_
  refine T.nilrow 5 4 100504 24 41 (.bss []) (c_39 b l s) rfl rfl rfl (fun x hx => by have := hp x hx; omega) rfl rfl trivial ?_
  refine T.loop (ι := Nat) (fun xx_ => { tm := [(1, (.one (.ptr 800 0))), (4, (.one (.ptr 4 0))), (5, (.one (.ptr 5 0))), (42, (pI (aw (ai b (ac (ac (ab b (ab b s).1).1 (decide (0 < (ab b (ab b s).1).2)) 5) (decide ((ab b (ab b s).1).2 ≤ l.f2)) 3) (ab b (ab b s).1).2 5).2 (ab b (ab b s).1).2))), (43, (pI (xx_ : Int)))], rows := [(4031, (5, (.ints .u8 (rdText b (ai b (ac (ac (ab b (ab b s).1).1 (decide (0 < (ab b (ab b s).1).2)) 5) (decide ((ab b (ab b s).1).2 ≤ l.f2)) 3) (ab b (ab b s).1).2 5).1 l.f1).2))), (100504, (24, (.bss (ao b (rdI3 l b s).1 xx_).2)))], boxes := [(800, (151, [cS b, cI (ao b (rdI3 l b s).1 xx_).1.f0, cI (ao b (rdI3 l b s).1 xx_).1.f1])), (2, (46, (c_3 l))), (4, (41, c_50)), (5, (41, (c_47 b l s)))] }) (fun xx_ => xx_ ≤ rdIn l b s) (fun xx_ => rdIn l b s - xx_) 0 ?_ ?_ ?_
  · refine Env.le_mk ⟨rfl, rfl, rfl, rfl, ?_, trivial⟩ ⟨rfl, ?_, trivial⟩ ⟨?_, rfl, rfl, rfl, trivial⟩ <;> exact p_22
  · exact Nat.zero_le _
  intro i hx
  try dsimp only at hx ⊢
  have hl_ := rdTags_len b (rdI3 l b s).1 i
  refine T.sr [(44, (pB (decide ((i : Int) < (aw (ai b (ac (ac (ab b (ab b s).1).1 (decide (0 < (ab b (ab b s).1).2)) 5) (decide ((ab b (ab b s).1).2 ≤ l.f2)) 3) (ab b (ab b s).1).2 5).2 (ab b (ab b s).1).2)))))] [] ?_
  refine T.seq ?_
  refine T.ci rfl (fun h7 => ?_) (fun h7 => ?_)
  ·refine T.skip (T.seq (T.block ?_))
   have nn8 := rdRaw_len b (ao b (rdI3 l b s).1 i).1 32
   refine T.drawX [{ dst := some 45, pv := (.one (.ptr 5 4)) }, { dst := some 46, pv := (.one (.row 100504 [])) }, { dst := some 47, pv := (.one (.ptr 800 0)) }, { dst := some 48, pv := (.one (.row 4048 [])), rows := [(4048, (5, (.ints .u8 (ae b (ao b (rdI3 l b s).1 i).1 32).2)))], box := some (800, (151, [cS b, cI (ae b (ao b (rdI3 l b s).1 i).1 32).1.f0, cI (ae b (ao b (rdI3 l b s).1 i).1 32).1.f1])) }, { dst := some 49, pv := (.one (.row 49 [])), rows := [(49, (24, (.bss [(ae b (ao b (rdI3 l b s).1 i).1 32).2])))], dead := [4048] }, { dst := some 50, pv := (.one (.row 500050 [])), rows := [(500050, (24, (.bss ((ao b (rdI3 l b s).1 i).2 ++ [(ae b (ao b (rdI3 l b s).1 i).1 32).2]))))], dead := [100504, 49] }, { dst := some 51, pv := (.one (.ptr 5 4)) }, { box := some (5, (41, (c_48 b l s))) }] p_6 p_6 ?_ ?_
   ·refine .sk 3 ?_
    refine .cons (fun E A => OpStep.plain rfl (Step.callXX2 (b := 800) (xs := [.tmp 47]) (ps := [(.one (.ptr 800 0))]) (bps := [cS b, cI (ao b (rdI3 l b s).1 i).1.f0, cI (ao b (rdI3 l b s).1 i).1.f1]) (ss := []) (g := .func 111) (t := 48) (ok_impl_reader__hash b (ao b (rdI3 l b s).1 i).1 p_3 p_0) rfl rfl p_21 rfl p_6 (evs_cons (A.g 47) (rfl)) (.cons (.bx) .nil) (A.b 800 (x := (151, _))) (.rd (.rd (.rd .nil))) rfl (handX_fresh (fun x_ hx_ => A.fresh x_ (by exact hx_))) (fun x hx => by have := hp x hx; omega) rfl p_109)) ?_
    refine .cons (fun E A => OpStep.plain rfl (Step.litX (e := 24) (z := 1) (by_ := 24) (xs := [.tmp 48]) (pss := [[.row 4048 []]]) (es := [(.ints .u8 (ae b (ao b (rdI3 l b s).1 i).1 32).2)]) (ss := [4048]) (d := (.bss [(ae b (ao b (rdI3 l b s).1 i).1 32).2])) (t := 49) rfl rfl p_21 p_6 rfl rfl (.cons (by exact (congrArg PV.flat (A.g 48 (p := (.one (.row 4048 []))))).trans rfl) .nil) p_104 (le_ok rfl) (le_ok rfl) A.fn (.row (A.r 4048 (x := (5, _))) p_104 .nil) (A.fresh _ (List.mem_singleton.2 rfl)) p_104 (fun x_ hx_ => by have := hp x_ hx_; omega) rfl trivial rfl rfl)) ?_
    refine .cons (fun E A => OpStep.plain rfl (Step.appendX (e := 24) (z := 1) (by_ := 24) (d := (.bss (ao b (rdI3 l b s).1 i).2)) (dy := (.bss [(ae b (ao b (rdI3 l b s).1 i).1 32).2])) (d' := (.bss ((ao b (rdI3 l b s).1 i).2 ++ [(ae b (ao b (rdI3 l b s).1 i).1 32).2]))) (ss := [49]) 500050 (t := 50) rfl rfl p_21 p_6 (A.g 46) (A.r 100504 (x := (24, _))) rfl (lt_ok rfl) (A.g 49) (.move (A.r 49 (x := (24, _)))) p_104 rfl p_19 p_19 (fun x_ hx_ => by have := hp x_ hx_; omega) (A.fresh _ (List.mem_singleton.2 rfl)) p_104 (fun x_ hx_ => by have := hp x_ hx_; omega))) ?_
    refine .sk 2 ?_
    exact .nil _ _
   refine TL.wk [(1, (.one (.ptr 800 0))), (4, (.one (.ptr 4 0))), (5, (.one (.ptr 5 0))), (42, (pI (aw (ai b (ac (ac (ab b (ab b s).1).1 (decide (0 < (ab b (ab b s).1).2)) 5) (decide ((ab b (ab b s).1).2 ≤ l.f2)) 3) (ab b (ab b s).1).2 5).2 (ab b (ab b s).1).2))), (43, (pI (i : Int)))] [(4031, (5, (.ints .u8 (rdText b (ai b (ac (ac (ab b (ab b s).1).1 (decide (0 < (ab b (ab b s).1).2)) 5) (decide ((ab b (ab b s).1).2 ≤ l.f2)) 3) (ab b (ab b s).1).2 5).1 l.f1).2))), (500050, (24, (.bss ((ao b (rdI3 l b s).1 i).2 ++ [(ae b (ao b (rdI3 l b s).1 i).1 32).2]))))] [(800, (151, [cS b, cI (ae b (ao b (rdI3 l b s).1 i).1 32).1.f0, cI (ae b (ao b (rdI3 l b s).1 i).1 32).1.f1])), (2, (46, (c_3 l))), (4, (41, c_50)), (5, (41, (c_48 b l s)))] ?_
   refine TL.ren 500050 100504 rfl (fun x hx => by have := hp x hx; omega) ?_
   refine TL.nil (T.region ?_)
   refine TL.ad ((i : Int) + 1) ?_
   refine TL.rl [(43, (pI ((i : Int) + 1)))] [] ?_
   refine ⟨i + 1, by first | omega | (have : (i : Int) < aw (rdI2 l b s).2 (ab b (ab b s).1).2 := p_3; omega), by first | omega | (dsimp only; omega) | (have : (i : Int) < aw (rdI2 l b s).2 (ab b (ab b s).1).2 := p_3; omega) | (dsimp only; (have : (i : Int) < aw (rdI2 l b s).2 (ab b (ab b s).1).2 := p_3; omega)), Env.le_mk ⟨rfl, rfl, rfl, rfl, ?_, trivial⟩ ⟨rfl, ?_, trivial⟩ ⟨?_, rfl, rfl, rfl, trivial⟩⟩ <;> exact p_22
  refine T.exit ?_
  refine T.sr [] [(4, (41, (c_47 b l s)))] ?_
  refine T.ret ?_
  refine ⟨_, _, rfl, rfl, (.cons rfl .nil), rfl, _, (.r rfl (.r ?_ (.r ?_ (.r ?_ (.r ?_ (.r ?_ (.o ?_ (.o ?_ .nil))))))))⟩ <;> exact p_41
 refine T.skip ?_
 refine T.sr [] [(4, (41, (c_39 b l s)))] ?_
 refine T.ret ?_
 refine ⟨_, _, rfl, rfl, (.cons rfl .nil), rfl, _, (.r rfl (.r ?_ (.r ?_ (.r ?_ (.r ?_ (.r ?_ (.o ?_ (.nn ?_ .nil))))))))⟩ <;> exact p_41
theorem ok_impl_Incl_ (l : SLimits) (b : List Int) (a : Int) (h0_ : U8s b) (h1_ : b.length ≤ 1048576) : RO Tryz.prog 84 [.agg l.cells, .one (.ints .u8 b), .one (.int .i64 a), .one (.fn 85)] [(true, [.rd (.int .i64 (getIncl l b a).1.f0), .rd (.int .i64 (getIncl l b a).1.f1), .rd (.int .i64 (getIncl l b a).1.f2), .own 5 (.ints .u8 (getIncl l b a).1.f3), .own 24 (.bss (getIncl l b a).1.f4)]), (false, [.rd (.int .i64 (getIncl l b a).2.1)]), (false, [.rd (.int .i64 (getIncl l b a).2.2)])] := by
 refine RO.intro Tryz.func84 rfl 41 rfl (le_ok rfl) fun w Z => ?_
 refine T.bnd 1 0 rfl rfl fun hb_1_0 => ?_
 simp only [D.size, List.length_map] at hb_1_0
 refine T.sr [(4, (.one (.ptr 4 0))), (8, (.one (.ptr 8 0))), (9, (pI 0)), (10, (pI 0))] [(4, (46, (c_3 l))), (8, (41, c_50))] ?_
 refine T.sr [(11, (.one (.ptr 11 0)))] [(11, (41, c_50))] ?_
 refine T.seq (T.sg ?_)
 refine TL.rx 1 [(14, (.agg (c_3 l)))] [] ?_
 refine TL.c (Step.cz (ok_impl_LimitsOk l)) ?_
 refine TL.rl [(16, (pB (!(limOk l))))] [] ?_
 refine T.cn rfl (fun h1 => ?_) (fun h1 => ?_)
 ·refine T.sr [(9, (pI 0)), (10, (pI 5))] [(8, (41, c_50))] ?_
  refine T.ret ?_
  exact p_161
 refine T.skip ?_
 refine T.sr [(12, (.one (.ptr 21 0)))] [(21, (151, [cS b, cI a, cI 0]))] ?_
 refine T.sg ?_
 refine TL.rx 3 [(22, (.one (.d (.fn 85)))), (23, (.agg (c_3 l))), (24, (.one (.ptr 21 0)))] [] ?_
 have nn2 := @rdIncl_sm l b (⟨a, 0⟩ : SRS) p_60
 refine TL.c (Step.x2 21 (ok_impl_readIncl b (⟨a, 0⟩ : SRS) l p_3 p_0)) ?_
 refine TL.rl [(13, (.one (.ptr 13 0)))] [(13, (41, (c_35 a b l)))] ?_
 refine T.seq ?_
 refine T.sr [(30, (pB (decide ((rdIncl l b (⟨a, 0⟩ : SRS)).1.f1 ≠ 0))))] [] ?_
 refine T.ci rfl (fun h3 => ?_) (fun h3 => ?_)
 ·refine T.seq ?_
  refine T.drawX [{ dst := some 31, pv := (.agg c_50) }, { dst := some 32, pv := (.one (.ptr 21 0)) }, { dst := some 33, pv := (.one (.ptr 21 0)) }, { dst := some 34, pv := (.one (.ptr 21 2)) }, { dst := some 35, pv := (pI (rdIncl l b (⟨a, 0⟩ : SRS)).1.f1) }, { box := some (8, (41, c_50)) }, { dst := some 9, pv := (pI 0) }, { dst := some 10, pv := (pI (rdIncl l b (⟨a, 0⟩ : SRS)).1.f1) }] p_6 p_6 ?_ ?_
  ·refine .sk 8 ?_
   exact .nil _ _
  refine TL.wk [(8, (.one (.ptr 8 0))), (9, (pI 0)), (10, (pI (rdIncl l b (⟨a, 0⟩ : SRS)).1.f1)), (12, (.one (.ptr 21 0))), (13, (.one (.ptr 13 0)))] [(7025, (5, (.ints .u8 (rdIncl l b (⟨a, 0⟩ : SRS)).2.f3))), (8025, (24, (.bss (rdIncl l b (⟨a, 0⟩ : SRS)).2.f4)))] [(4, (46, (c_3 l))), (8, (41, c_50)), (11, (41, c_50)), (21, (151, [cS b, cI (rdIncl l b (⟨a, 0⟩ : SRS)).1.f0, cI (rdIncl l b (⟨a, 0⟩ : SRS)).1.f1])), (13, (41, (c_35 a b l)))] ?_
  refine TL.nil (T.ret ?_)
  exact p_161
 refine T.skip (T.seq ?_)
 refine T.drawX [{ dst := some 36, pv := (.agg (c_35 a b l)) }, { dst := some 37, pv := (.one (.ptr 21 0)) }, { dst := some 38, pv := (.one (.ptr 21 0)) }, { dst := some 39, pv := (.one (.ptr 21 1)) }, { dst := some 40, pv := (pI (rdIncl l b (⟨a, 0⟩ : SRS)).1.f0) }, { box := some (8, (41, (c_35 a b l))) }, { dst := some 9, pv := (pI (rdIncl l b (⟨a, 0⟩ : SRS)).1.f0) }, { dst := some 10, pv := (pI 0) }] p_6 p_6 ?_ ?_
 ·refine .sk 8 ?_
  exact .nil _ _
 refine TL.wk [(8, (.one (.ptr 8 0))), (9, (pI (rdIncl l b (⟨a, 0⟩ : SRS)).1.f0)), (10, (pI 0))] [(7025, (5, (.ints .u8 (rdIncl l b (⟨a, 0⟩ : SRS)).2.f3))), (8025, (24, (.bss (rdIncl l b (⟨a, 0⟩ : SRS)).2.f4)))] [(4, (46, (c_3 l))), (8, (41, (c_35 a b l))), (11, (41, c_50)), (21, (151, [cS b, cI (rdIncl l b (⟨a, 0⟩ : SRS)).1.f0, cI (rdIncl l b (⟨a, 0⟩ : SRS)).1.f1])), (13, (41, (c_35 a b l)))] ?_
 refine TL.nil (T.ret ?_)
 refine ⟨_, (.cons rfl (.cons rfl (.cons rfl .nil))), rfl, _, (.r ?_ (.r ?_ (.r ?_ (.o ?_ (.o ?_ (.r ?_ (.r ?_ .nil)))))))⟩ <;> exact p_29
theorem ok_impl_GetIncl (l : SLimits) (b : List Int) (a : Int) (h0_ : U8s b) (h1_ : b.length ≤ 1048576) : RO Tryz.prog 34 [.agg l.cells, .one (.ints .u8 b), .one (.int .i64 a)] [(true, [.rd (.int .i64 (getIncl l b a).1.f0), .rd (.int .i64 (getIncl l b a).1.f1), .rd (.int .i64 (getIncl l b a).1.f2), .own 5 (.ints .u8 (getIncl l b a).1.f3), .own 24 (.bss (getIncl l b a).1.f4)]), (false, [.rd (.int .i64 (getIncl l b a).2.1)]), (false, [.rd (.int .i64 (getIncl l b a).2.2)])] := by
 refine RO.intro Tryz.func34 rfl 16 rfl (le_ok rfl) fun w Z => ?_
 refine T.bnd 1 0 rfl rfl fun hb_1_0 => ?_
 simp only [D.size, List.length_map] at hb_1_0
 refine T.sr [(3, (.one (.ptr 3 0))), (6, (.one (.ptr 6 0))), (7, (pI 0)), (8, (pI 0))] [(3, (46, (c_3 l))), (6, (41, c_50))] ?_
 refine T.sg ?_
 refine TL.rx 3 [(9, (.agg (c_3 l))), (10, (pS b)), (11, (pI a))] [] ?_
 have nn1 := @getIncl_sm l b a p_60
 refine TL.c (Step.cz (ok_impl_Incl_ l b a p_3 p_0)) ?_
 refine TL.rl [(7, (pI (getIncl l b a).2.1)), (8, (pI (getIncl l b a).2.2))] [(6, (41, [cI (getIncl l b a).1.f0, cI (getIncl l b a).1.f1, cI (getIncl l b a).1.f2, .row 4012 [], .row 5012 []]))] ?_
 refine T.ret ?_
 refine ⟨_, (.cons rfl (.cons rfl (.cons rfl .nil))), rfl, _, (.r rfl (.r rfl (.r rfl (.o ?_ (.o ?_ (.r rfl (.r rfl .nil)))))))⟩ <;> exact p_122
theorem ok_impl_Decode (l : SLimits) (b : List Int) (h0_ : U8s b) (h1_ : b.length ≤ 1048576) : RO Tryz.prog 8 [.agg l.cells, .one (.ints .u8 b)] [(true, [.rd (.int .i64 (aa l b).1.f0), .rd (.int .i64 (aa l b).1.f1.f0), .rd (.int .i64 (aa l b).1.f1.f1), .own 5 (.ints .u8 (aa l b).1.f1.f2), .rd (.int .i64 (aa l b).1.f1.f3), .own 5 (.ints .u8 (aa l b).1.f1.f4), .rd (.int .i64 (aa l b).1.f2.f0), .rd (.int .i64 (aa l b).1.f2.f1), .own 5 (.ints .u8 (aa l b).1.f2.f2), .own 5 (.ints .u8 (aa l b).1.f2.f3), .own 24 (.bss (aa l b).1.f2.f4), .rd (.int .i64 (aa l b).1.f3.f0), .rd (.int .i64 (aa l b).1.f3.f1), .rd (.int .i64 (aa l b).1.f3.f2), .own 5 (.ints .u8 (aa l b).1.f3.f3), .own 5 (.ints .u8 (aa l b).1.f3.f4), .rd (.int .i64 (aa l b).1.f3.f5.f0), .rd (.int .i64 (aa l b).1.f3.f5.f1), .own 5 (.ints .u8 (aa l b).1.f3.f5.f2), .own 5 (.ints .u8 (aa l b).1.f3.f5.f3), .own 24 (.bss (aa l b).1.f3.f5.f4), .rd (.int .i64 (aa l b).1.f4.f0.f0), .rd (.int .i64 (aa l b).1.f4.f0.f1), .rd (.int .i64 (aa l b).1.f4.f0.f2), .own 5 (.ints .u8 (aa l b).1.f4.f0.f3), .own 5 (.ints .u8 (aa l b).1.f4.f0.f4), .rd (.int .i64 (aa l b).1.f4.f0.f5.f0), .rd (.int .i64 (aa l b).1.f4.f0.f5.f1), .own 5 (.ints .u8 (aa l b).1.f4.f0.f5.f2), .own 5 (.ints .u8 (aa l b).1.f4.f0.f5.f3), .own 24 (.bss (aa l b).1.f4.f0.f5.f4), .own 24 (.bss (aa l b).1.f4.f1), .rd (.int .i64 (aa l b).1.f5.f0), .own 111 (.sl 3 ((aa l b).1.f5.f1.map SEntry.cells)), .own 31 (.sl 10 ((aa l b).1.f6.f0.map SHead.cells)), .rd (.int .i64 (aa l b).1.f6.f1.f0), .rd (.int .i64 (aa l b).1.f6.f1.f1), .own 5 (.ints .u8 (aa l b).1.f6.f1.f2), .own 5 (.ints .u8 (aa l b).1.f6.f1.f3), .own 24 (.bss (aa l b).1.f6.f1.f4), .rd (.int .i64 (aa l b).1.f7.f0), .rd (.int .i64 (aa l b).1.f7.f1), .rd (.int .i64 (aa l b).1.f7.f2), .own 5 (.ints .u8 (aa l b).1.f7.f3), .own 24 (.bss (aa l b).1.f7.f4)]), (false, [.rd (.int .i64 (aa l b).2)])] := by
 refine RO.intro Tryz.func8 rfl 115 rfl (le_ok rfl) fun w Z => ?_
 refine T.bnd 1 0 rfl rfl fun hb_1_0 => ?_
 simp only [D.size, List.length_map] at hb_1_0
 have hu0_ := getD_u8 h0_ 0
 refine T.sr [(2, (.one (.ptr 2 0))), (4, (.one (.ptr 4 0))), (5, (pI 0))] [(2, (46, (c_3 l))), (4, (43, c_0))] ?_
 refine T.seq (T.block (T.sg ?_))
 refine TL.rx 1 [(10, (.agg (c_3 l)))] [] ?_
 refine TL.c (Step.cz (ok_impl_LimitsOk l)) ?_
 refine TL.rl [(9, (pB (!(limOk l))))] [] ?_
 refine T.cn rfl (fun h1 => ?_) (fun h1 => ?_)
 ·refine T.sr [(5, (pI 5))] [(4, (43, c_0))] ?_
  refine T.ret ?_
  rw [decV (l := l) (b := b)]
  exact p_123
 refine T.sg ?_
 refine TL.rx 1 [(15, (pS b))] [] ?_
 refine TL.c (Step.ln 5 1 (.ints .u8 b)) ?_
 refine TL.rl [(14, (pB (decide ((b.length : Int) = 0))))] [] ?_
 refine T.ci rfl (fun h2 => ?_) (fun h2 => ?_)
 ·refine T.sr [(5, (pI 1))] [(4, (43, c_0))] ?_
  refine T.ret ?_
  rw [decV (l := l) (b := b)]
  exact p_123
 refine T.sg ?_
 refine TL.rx 1 [(20, (pS b))] [] ?_
 refine TL.c (Step.index (e := 5) (z := 1) (i := 0) rfl rfl (lt_ok rfl) p_6 rfl rfl rfl (lt_ok rfl) rfl p_17 p_39) ?_
 refine TL.c (Step.load (e := (.int .u8 (b.getD 0 0))) rfl rfl (lt_ok rfl) p_6 rfl rfl) ?_
 refine TL.c (Step.conv (c := (b.getD 0 0)) rfl rfl (lt_ok rfl) p_6 p_6 rfl (wrap_ok p_17 p_17)) ?_
 refine TL.c (Step.cz (ok_impl_KindName (b.getD 0 0) (by first | assumption | exact ⟨by omega, by omega⟩))) ?_
 refine TL.rl [(19, (pB ((nameW (b.getD 0 0) kindNs).toList == ByteArray.empty.toList)))] [] ?_
 refine T.cond (b := (nameW (b.getD 0 0) kindNs).toList == ByteArray.empty.toList) rfl (fun h3 => ?_) (fun h3 => ?_)
 ·rw [kind_eq p_4 p_4, Bool.not_eq_true', decide_eq_false_iff_not] at h3
  refine T.sr [(5, (pI 8))] [(4, (43, c_0))] ?_
  refine T.ret ?_
  rw [decV (l := l) (b := b)]
  exact p_123
 rw [kind_eq p_4 p_4, Bool.not_eq_false', decide_eq_true_eq] at h3
 refine T.skip (T.sg ?_)
 refine TL.rx 1 [(27, (pS b))] [] ?_
 refine TL.c (Step.index (e := 5) (z := 1) (i := 0) rfl rfl (lt_ok rfl) p_6 rfl rfl rfl (lt_ok rfl) rfl p_17 p_39) ?_
 refine TL.c (Step.load (e := (.int .u8 (b.getD 0 0))) rfl rfl (lt_ok rfl) p_6 rfl rfl) ?_
 refine TL.c (Step.conv (c := (b.getD 0 0)) rfl rfl (lt_ok rfl) p_6 p_6 rfl (wrap_ok p_17 p_17)) ?_
 refine TL.rl [(6, (.one (.ptr 6 0))), (7, (pI 0)), (8, (pI 0))] [(6, (43, (c_33 b)))] ?_
 refine T.seq ?_
 refine T.sr [(33, (pI (b.getD 0 0)))] [] ?_
 refine T.block ?_
 refine T.sr [(42, (pB (decide ((b.getD 0 0) = 1))))] [] ?_
 refine T.ci rfl (fun h4 => ?_) (fun h4 => ?_)
 ·refine T.region ?_
  refine TL.rx 2 [(45, (.agg (c_3 l))), (46, (pS b))] [] ?_
  have nn5 := @getVote_sm l b 1 p_60
  refine TL.c (Step.cz (ok_impl_GetVote l b 1 p_3 p_0)) ?_
  refine TL.rl [(7, (pI (aq l b 1).2.1)), (8, (pI (aq l b 1).2.2))] [(6, (43, (c_17 b l)))] ?_
  refine T.seq (T.sg ?_)
  refine TL.rx 3 [(104, (pB (decide ((aq l b 1).2.2 = 0))))] [] ?_
  rcases Bool.eq_false_or_eq_true (decide ((aq l b 1).2.2 = 0)) with hb6 | hb6
  ·refine TL.known 104 hb6 rfl ?_
   have hb6' := hb6
   replace hb6' := of_decide_eq_true hb6'
   refine TL.rx 2 [(105, (pI (aq l b 1).2.1)), (106, (pS b))] [] ?_
   refine TL.gy 104 (Step.ln 5 1 (.ints .u8 b)) ?_
   refine TL.rl [(109, (pB (decide ((aq l b 1).2.1 ≠ (b.length : Int)))))] [] ?_
   refine T.ci rfl (fun h7 => ?_) (fun h7 => ?_)
   ·refine T.rr [(8, (pI 9))] [] ?_
    refine T.seq ?_
    refine T.sr [(111, (pB (decide (9 ≠ 0))))] [] ?_
    refine T.ci rfl (fun h8 => ?_) (fun h8 => ?_)
    ·refine T.sr [(5, (pI 9))] [(4, (43, c_0))] ?_
     refine T.ret ?_
     rw [decV (l := l) (b := b)]
     exact p_123
    refine T.skip ?_
    refine T.sr [(5, (pI 0))] [(4, (43, (c_17 b l)))] ?_
    refine T.ret ?_
    rw [decV (l := l) (b := b)]
    exact p_125
   refine T.skip (T.seq ?_)
   refine T.sr [(111, (pB (decide ((aq l b 1).2.2 ≠ 0))))] [] ?_
   refine T.ci rfl (fun h9 => ?_) (fun h9 => ?_)
   ·refine T.sr [(5, (pI (aq l b 1).2.2))] [(4, (43, c_0))] ?_
    refine T.ret ?_
    rw [decV (l := l) (b := b)]
    exact p_123
   refine T.skip ?_
   refine T.sr [(5, (pI 0))] [(4, (43, (c_17 b l)))] ?_
   refine T.ret ?_
   rw [decV (l := l) (b := b)]
   exact p_125
  refine TL.known 104 hb6 rfl ?_
  have hb6' := hb6
  replace hb6' := of_decide_eq_false hb6'
  refine TL.rl [(109, (pB false))] [] ?_
  refine T.cf (T.skip (T.seq ?_))
  refine T.sr [(111, (pB (decide ((aq l b 1).2.2 ≠ 0))))] [] ?_
  refine T.ci rfl (fun h10 => ?_) (fun h10 => ?_)
  ·refine T.sr [(5, (pI (aq l b 1).2.2))] [(4, (43, c_0))] ?_
   refine T.ret ?_
   rw [decV (l := l) (b := b)]
   exact p_123
  refine T.skip ?_
  refine T.sr [(5, (pI 0))] [(4, (43, (c_17 b l)))] ?_
  refine T.ret ?_
  rw [decV (l := l) (b := b)]
  exact p_125
 refine T.sr [(52, (pB (decide ((b.getD 0 0) = 2))))] [] ?_
 refine T.ci rfl (fun h11 => ?_) (fun h11 => ?_)
 ·refine T.region ?_
  refine TL.rx 2 [(55, (.agg (c_3 l))), (56, (pS b))] [] ?_
  have nn12 := @getQc_sm l b 1 p_60
  refine TL.c (Step.cz (ok_impl_GetQc l b 1 p_3 p_0)) ?_
  refine TL.rl [(7, (pI (getQc l b 1).2.1)), (8, (pI (getQc l b 1).2.2))] [(6, (43, (c_21 b l)))] ?_
  refine T.seq (T.sg ?_)
  refine TL.rx 3 [(104, (pB (decide ((getQc l b 1).2.2 = 0))))] [] ?_
  rcases Bool.eq_false_or_eq_true (decide ((getQc l b 1).2.2 = 0)) with hb13 | hb13
  ·refine TL.known 104 hb13 rfl ?_
   have hb13' := hb13
   replace hb13' := of_decide_eq_true hb13'
   refine TL.rx 2 [(105, (pI (getQc l b 1).2.1)), (106, (pS b))] [] ?_
   refine TL.gy 104 (Step.ln 5 1 (.ints .u8 b)) ?_
   refine TL.rl [(109, (pB (decide ((getQc l b 1).2.1 ≠ (b.length : Int)))))] [] ?_
   refine T.ci rfl (fun h14 => ?_) (fun h14 => ?_)
   ·refine T.rr [(8, (pI 9))] [] ?_
    refine T.seq ?_
    refine T.sr [(111, (pB (decide (9 ≠ 0))))] [] ?_
    refine T.ci rfl (fun h15 => ?_) (fun h15 => ?_)
    ·refine T.sr [(5, (pI 9))] [(4, (43, c_0))] ?_
     refine T.ret ?_
     rw [decV (l := l) (b := b)]
     exact p_123
    refine T.skip ?_
    refine T.sr [(5, (pI 0))] [(4, (43, (c_21 b l)))] ?_
    refine T.ret ?_
    rw [decV (l := l) (b := b)]
    exact p_127
   refine T.skip (T.seq ?_)
   refine T.sr [(111, (pB (decide ((getQc l b 1).2.2 ≠ 0))))] [] ?_
   refine T.ci rfl (fun h16 => ?_) (fun h16 => ?_)
   ·refine T.sr [(5, (pI (getQc l b 1).2.2))] [(4, (43, c_0))] ?_
    refine T.ret ?_
    rw [decV (l := l) (b := b)]
    exact p_123
   refine T.skip ?_
   refine T.sr [(5, (pI 0))] [(4, (43, (c_21 b l)))] ?_
   refine T.ret ?_
   rw [decV (l := l) (b := b)]
   exact p_127
  refine TL.known 104 hb13 rfl ?_
  have hb13' := hb13
  replace hb13' := of_decide_eq_false hb13'
  refine TL.rl [(109, (pB false))] [] ?_
  refine T.cf (T.skip (T.seq ?_))
  refine T.sr [(111, (pB (decide ((getQc l b 1).2.2 ≠ 0))))] [] ?_
  refine T.ci rfl (fun h17 => ?_) (fun h17 => ?_)
  ·refine T.sr [(5, (pI (getQc l b 1).2.2))] [(4, (43, c_0))] ?_
   refine T.ret ?_
   rw [decV (l := l) (b := b)]
   exact p_123
  refine T.skip ?_
  refine T.sr [(5, (pI 0))] [(4, (43, (c_21 b l)))] ?_
  refine T.ret ?_
  rw [decV (l := l) (b := b)]
  exact p_127
 refine T.sr [(62, (pB (decide ((b.getD 0 0) = 3))))] [] ?_
 refine T.ci rfl (fun h18 => ?_) (fun h18 => ?_)
 ·refine T.region ?_
  refine TL.rx 2 [(65, (.agg (c_3 l))), (66, (pS b))] [] ?_
  have nn19 := @getHead_sm l b 1 p_60
  refine TL.c (Step.cz (ok_impl_GetHead l b 1 p_3 p_0)) ?_
  refine TL.rl [(7, (pI (ax l b 1).2.1)), (8, (pI (ax l b 1).2.2))] [(6, (43, (c_12 b l)))] ?_
  refine T.seq (T.sg ?_)
  refine TL.rx 3 [(104, (pB (decide ((ax l b 1).2.2 = 0))))] [] ?_
  rcases Bool.eq_false_or_eq_true (decide ((ax l b 1).2.2 = 0)) with hb20 | hb20
  ·refine TL.known 104 hb20 rfl ?_
   have hb20' := hb20
   replace hb20' := of_decide_eq_true hb20'
   refine TL.rx 2 [(105, (pI (ax l b 1).2.1)), (106, (pS b))] [] ?_
   refine TL.gy 104 (Step.ln 5 1 (.ints .u8 b)) ?_
   refine TL.rl [(109, (pB (decide ((ax l b 1).2.1 ≠ (b.length : Int)))))] [] ?_
   refine T.ci rfl (fun h21 => ?_) (fun h21 => ?_)
   ·refine T.rr [(8, (pI 9))] [] ?_
    refine T.seq ?_
    refine T.sr [(111, (pB (decide (9 ≠ 0))))] [] ?_
    refine T.ci rfl (fun h22 => ?_) (fun h22 => ?_)
    ·refine T.sr [(5, (pI 9))] [(4, (43, c_0))] ?_
     refine T.ret ?_
     rw [decV (l := l) (b := b)]
     exact p_123
    refine T.skip ?_
    refine T.sr [(5, (pI 0))] [(4, (43, (c_12 b l)))] ?_
    refine T.ret ?_
    rw [decV (l := l) (b := b)]
    exact p_128
   refine T.skip (T.seq ?_)
   refine T.sr [(111, (pB (decide ((ax l b 1).2.2 ≠ 0))))] [] ?_
   refine T.ci rfl (fun h23 => ?_) (fun h23 => ?_)
   ·refine T.sr [(5, (pI (ax l b 1).2.2))] [(4, (43, c_0))] ?_
    refine T.ret ?_
    rw [decV (l := l) (b := b)]
    exact p_123
   refine T.skip ?_
   refine T.sr [(5, (pI 0))] [(4, (43, (c_12 b l)))] ?_
   refine T.ret ?_
   rw [decV (l := l) (b := b)]
   exact p_128
  refine TL.known 104 hb20 rfl ?_
  have hb20' := hb20
  replace hb20' := of_decide_eq_false hb20'
  refine TL.rl [(109, (pB false))] [] ?_
  refine T.cf (T.skip (T.seq ?_))
  refine T.sr [(111, (pB (decide ((ax l b 1).2.2 ≠ 0))))] [] ?_
  refine T.ci rfl (fun h24 => ?_) (fun h24 => ?_)
  ·refine T.sr [(5, (pI (ax l b 1).2.2))] [(4, (43, c_0))] ?_
   refine T.ret ?_
   rw [decV (l := l) (b := b)]
   exact p_123
  refine T.skip ?_
  refine T.sr [(5, (pI 0))] [(4, (43, (c_12 b l)))] ?_
  refine T.ret ?_
  rw [decV (l := l) (b := b)]
  exact p_128
 refine T.sr [(72, (pB (decide ((b.getD 0 0) = 4))))] [] ?_
 refine T.ci rfl (fun h25 => ?_) (fun h25 => ?_)
 ·refine T.region ?_
  refine TL.rx 2 [(75, (.agg (c_3 l))), (76, (pS b))] [] ?_
  have nn26 := @getBlock_sm l b 1 p_60
  refine TL.c (Step.cz (ok_impl_GetBlock l b 1 p_3 p_0)) ?_
  refine TL.rl [(7, (pI (ar l b 1).2.1)), (8, (pI (ar l b 1).2.2))] [(6, (43, (c_7 b l)))] ?_
  refine T.seq (T.sg ?_)
  refine TL.rx 3 [(104, (pB (decide ((ar l b 1).2.2 = 0))))] [] ?_
  rcases Bool.eq_false_or_eq_true (decide ((ar l b 1).2.2 = 0)) with hb27 | hb27
  ·refine TL.known 104 hb27 rfl ?_
   have hb27' := hb27
   replace hb27' := of_decide_eq_true hb27'
   refine TL.rx 2 [(105, (pI (ar l b 1).2.1)), (106, (pS b))] [] ?_
   refine TL.gy 104 (Step.ln 5 1 (.ints .u8 b)) ?_
   refine TL.rl [(109, (pB (decide ((ar l b 1).2.1 ≠ (b.length : Int)))))] [] ?_
   refine T.ci rfl (fun h28 => ?_) (fun h28 => ?_)
   ·refine T.rr [(8, (pI 9))] [] ?_
    refine T.seq ?_
    refine T.sr [(111, (pB (decide (9 ≠ 0))))] [] ?_
    refine T.ci rfl (fun h29 => ?_) (fun h29 => ?_)
    ·refine T.sr [(5, (pI 9))] [(4, (43, c_0))] ?_
     refine T.ret ?_
     rw [decV (l := l) (b := b)]
     exact p_123
    refine T.skip ?_
    refine T.sr [(5, (pI 0))] [(4, (43, (c_7 b l)))] ?_
    refine T.wk [(4, (.one (.ptr 4 0))), (5, (pI 0))] [(4077, (5, (.ints .u8 (ar l b 1).1.f0.f3))), (5077, (5, (.ints .u8 (ar l b 1).1.f0.f4))), (8077, (5, (.ints .u8 (ar l b 1).1.f0.f5.f2))), (9077, (5, (.ints .u8 (ar l b 1).1.f0.f5.f3))), (10077, (24, (.bss (ar l b 1).1.f0.f5.f4))), (11077, (24, (.bss (ar l b 1).1.f1)))] [(4, (43, (c_7 b l)))] ?_
    refine T.ret ?_
    rw [decV (l := l) (b := b)]
    exact p_129
   refine T.skip (T.seq ?_)
   refine T.sr [(111, (pB (decide ((ar l b 1).2.2 ≠ 0))))] [] ?_
   refine T.ci rfl (fun h30 => ?_) (fun h30 => ?_)
   ·refine T.sr [(5, (pI (ar l b 1).2.2))] [(4, (43, c_0))] ?_
    refine T.ret ?_
    rw [decV (l := l) (b := b)]
    exact p_123
   refine T.skip ?_
   refine T.sr [(5, (pI 0))] [(4, (43, (c_7 b l)))] ?_
   refine T.wk [(4, (.one (.ptr 4 0))), (5, (pI 0))] [(4077, (5, (.ints .u8 (ar l b 1).1.f0.f3))), (5077, (5, (.ints .u8 (ar l b 1).1.f0.f4))), (8077, (5, (.ints .u8 (ar l b 1).1.f0.f5.f2))), (9077, (5, (.ints .u8 (ar l b 1).1.f0.f5.f3))), (10077, (24, (.bss (ar l b 1).1.f0.f5.f4))), (11077, (24, (.bss (ar l b 1).1.f1)))] [(4, (43, (c_7 b l)))] ?_
   refine T.ret ?_
   rw [decV (l := l) (b := b)]
   exact p_129
  refine TL.known 104 hb27 rfl ?_
  have hb27' := hb27
  replace hb27' := of_decide_eq_false hb27'
  refine TL.rl [(109, (pB false))] [] ?_
  refine T.cf (T.skip (T.seq ?_))
  refine T.sr [(111, (pB (decide ((ar l b 1).2.2 ≠ 0))))] [] ?_
  refine T.ci rfl (fun h31 => ?_) (fun h31 => ?_)
  ·refine T.sr [(5, (pI (ar l b 1).2.2))] [(4, (43, c_0))] ?_
   refine T.ret ?_
   rw [decV (l := l) (b := b)]
   exact p_123
  refine T.skip ?_
  refine T.sr [(5, (pI 0))] [(4, (43, (c_7 b l)))] ?_
  refine T.ret ?_
  rw [decV (l := l) (b := b)]
  exact p_129
 refine T.sr [(82, (pB (decide ((b.getD 0 0) = 5))))] [] ?_
 refine T.ci rfl (fun h32 => ?_) (fun h32 => ?_)
 ·refine T.region ?_
  refine TL.rx 2 [(85, (.agg (c_3 l))), (86, (pS b))] [] ?_
  have nn33 := @getTc_sm l b 1 p_60
  refine TL.c (Step.cz (ok_impl_GetTc l b 1 p_3 p_0)) ?_
  refine TL.rl [(7, (pI (getTc l b 1).2.1)), (8, (pI (getTc l b 1).2.2))] [(6, (43, (c_22 b l)))] ?_
  refine T.seq (T.sg ?_)
  refine TL.rx 3 [(104, (pB (decide ((getTc l b 1).2.2 = 0))))] [] ?_
  rcases Bool.eq_false_or_eq_true (decide ((getTc l b 1).2.2 = 0)) with hb34 | hb34
  ·refine TL.known 104 hb34 rfl ?_
   have hb34' := hb34
   replace hb34' := of_decide_eq_true hb34'
   refine TL.rx 2 [(105, (pI (getTc l b 1).2.1)), (106, (pS b))] [] ?_
   refine TL.gy 104 (Step.ln 5 1 (.ints .u8 b)) ?_
   refine TL.rl [(109, (pB (decide ((getTc l b 1).2.1 ≠ (b.length : Int)))))] [] ?_
   refine T.ci rfl (fun h35 => ?_) (fun h35 => ?_)
   ·refine T.rr [(8, (pI 9))] [] ?_
    refine T.seq ?_
    refine T.sr [(111, (pB (decide (9 ≠ 0))))] [] ?_
    refine T.ci rfl (fun h36 => ?_) (fun h36 => ?_)
    ·refine T.sr [(5, (pI 9))] [(4, (43, c_0))] ?_
     refine T.ret ?_
     rw [decV (l := l) (b := b)]
     exact p_123
    refine T.skip ?_
    refine T.sr [(5, (pI 0))] [(4, (43, (c_22 b l)))] ?_
    refine T.ret ?_
    rw [decV (l := l) (b := b)]
    exact p_130
   refine T.skip (T.seq ?_)
   refine T.sr [(111, (pB (decide ((getTc l b 1).2.2 ≠ 0))))] [] ?_
   refine T.ci rfl (fun h37 => ?_) (fun h37 => ?_)
   ·refine T.sr [(5, (pI (getTc l b 1).2.2))] [(4, (43, c_0))] ?_
    refine T.ret ?_
    rw [decV (l := l) (b := b)]
    exact p_123
   refine T.skip ?_
   refine T.sr [(5, (pI 0))] [(4, (43, (c_22 b l)))] ?_
   refine T.ret ?_
   rw [decV (l := l) (b := b)]
   exact p_130
  refine TL.known 104 hb34 rfl ?_
  have hb34' := hb34
  replace hb34' := of_decide_eq_false hb34'
  refine TL.rl [(109, (pB false))] [] ?_
  refine T.cf (T.skip (T.seq ?_))
  refine T.sr [(111, (pB (decide ((getTc l b 1).2.2 ≠ 0))))] [] ?_
  refine T.ci rfl (fun h38 => ?_) (fun h38 => ?_)
  ·refine T.sr [(5, (pI (getTc l b 1).2.2))] [(4, (43, c_0))] ?_
   refine T.ret ?_
   rw [decV (l := l) (b := b)]
   exact p_123
  refine T.skip ?_
  refine T.sr [(5, (pI 0))] [(4, (43, (c_22 b l)))] ?_
  refine T.ret ?_
  rw [decV (l := l) (b := b)]
  exact p_130
 refine T.sr [(92, (pB (decide ((b.getD 0 0) = 6))))] [] ?_
 refine T.ci rfl (fun h39 => ?_) (fun h39 => ?_)
 ·refine T.region ?_
  refine TL.rx 2 [(95, (.agg (c_3 l))), (96, (pS b))] [] ?_
  have nn40 := @getProof_sm l b 1 p_60
  refine TL.c (Step.cz (ok_impl_GetProof l b 1 p_3 p_0)) ?_
  refine TL.rl [(7, (pI (getProof l b 1).2.1)), (8, (pI (getProof l b 1).2.2))] [(6, (43, (c_16 b l)))] ?_
  refine T.seq (T.sg ?_)
  refine TL.rx 3 [(104, (pB (decide ((getProof l b 1).2.2 = 0))))] [] ?_
  rcases Bool.eq_false_or_eq_true (decide ((getProof l b 1).2.2 = 0)) with hb41 | hb41
  ·refine TL.known 104 hb41 rfl ?_
   have hb41' := hb41
   replace hb41' := of_decide_eq_true hb41'
   refine TL.rx 2 [(105, (pI (getProof l b 1).2.1)), (106, (pS b))] [] ?_
   refine TL.gy 104 (Step.ln 5 1 (.ints .u8 b)) ?_
   refine TL.rl [(109, (pB (decide ((getProof l b 1).2.1 ≠ (b.length : Int)))))] [] ?_
   refine T.ci rfl (fun h42 => ?_) (fun h42 => ?_)
   ·refine T.rr [(8, (pI 9))] [] ?_
    refine T.seq ?_
    refine T.sr [(111, (pB (decide (9 ≠ 0))))] [] ?_
    refine T.ci rfl (fun h43 => ?_) (fun h43 => ?_)
    ·refine T.sr [(5, (pI 9))] [(4, (43, c_0))] ?_
     refine T.ret ?_
     rw [decV (l := l) (b := b)]
     exact p_123
    refine T.skip ?_
    refine T.sr [(5, (pI 0))] [(4, (43, (c_16 b l)))] ?_
    refine T.ret ?_
    rw [decV (l := l) (b := b)]
    exact p_131
   refine T.skip (T.seq ?_)
   refine T.sr [(111, (pB (decide ((getProof l b 1).2.2 ≠ 0))))] [] ?_
   refine T.ci rfl (fun h44 => ?_) (fun h44 => ?_)
   ·refine T.sr [(5, (pI (getProof l b 1).2.2))] [(4, (43, c_0))] ?_
    refine T.ret ?_
    rw [decV (l := l) (b := b)]
    exact p_123
   refine T.skip ?_
   refine T.sr [(5, (pI 0))] [(4, (43, (c_16 b l)))] ?_
   refine T.ret ?_
   rw [decV (l := l) (b := b)]
   exact p_131
  refine TL.known 104 hb41 rfl ?_
  have hb41' := hb41
  replace hb41' := of_decide_eq_false hb41'
  refine TL.rl [(109, (pB false))] [] ?_
  refine T.cf (T.skip (T.seq ?_))
  refine T.sr [(111, (pB (decide ((getProof l b 1).2.2 ≠ 0))))] [] ?_
  refine T.ci rfl (fun h45 => ?_) (fun h45 => ?_)
  ·refine T.sr [(5, (pI (getProof l b 1).2.2))] [(4, (43, c_0))] ?_
   refine T.ret ?_
   rw [decV (l := l) (b := b)]
   exact p_123
  refine T.skip ?_
  refine T.sr [(5, (pI 0))] [(4, (43, (c_16 b l)))] ?_
  refine T.ret ?_
  rw [decV (l := l) (b := b)]
  exact p_131
 refine T.region ?_
 refine TL.rx 2 [(35, (.agg (c_3 l))), (36, (pS b))] [] ?_
 have nn46 := @getIncl_sm l b 1 p_60
 refine TL.c (Step.cz (ok_impl_GetIncl l b 1 p_3 p_0)) ?_
 refine TL.rl [(7, (pI (getIncl l b 1).2.1)), (8, (pI (getIncl l b 1).2.2))] [(6, (43, (c_18 b l)))] ?_
 refine T.seq (T.sg ?_)
 refine TL.rx 3 [(104, (pB (decide ((getIncl l b 1).2.2 = 0))))] [] ?_
 rcases Bool.eq_false_or_eq_true (decide ((getIncl l b 1).2.2 = 0)) with hb47 | hb47
 ·refine TL.known 104 hb47 rfl ?_
  have hb47' := hb47
  replace hb47' := of_decide_eq_true hb47'
  refine TL.rx 2 [(105, (pI (getIncl l b 1).2.1)), (106, (pS b))] [] ?_
  refine TL.gy 104 (Step.ln 5 1 (.ints .u8 b)) ?_
  refine TL.rl [(109, (pB (decide ((getIncl l b 1).2.1 ≠ (b.length : Int)))))] [] ?_
  refine T.ci rfl (fun h48 => ?_) (fun h48 => ?_)
  ·refine T.rr [(8, (pI 9))] [] ?_
   refine T.seq ?_
   refine T.sr [(111, (pB (decide (9 ≠ 0))))] [] ?_
   refine T.ci rfl (fun h49 => ?_) (fun h49 => ?_)
   ·refine T.sr [(5, (pI 9))] [(4, (43, c_0))] ?_
    refine T.ret ?_
    rw [decV (l := l) (b := b)]
    exact p_123
   refine T.skip ?_
   refine T.sr [(5, (pI 0))] [(4, (43, (c_18 b l)))] ?_
   refine T.ret ?_
   rw [decV (l := l) (b := b)]
   exact p_126
  refine T.skip (T.seq ?_)
  refine T.sr [(111, (pB (decide ((getIncl l b 1).2.2 ≠ 0))))] [] ?_
  refine T.ci rfl (fun h50 => ?_) (fun h50 => ?_)
  ·refine T.sr [(5, (pI (getIncl l b 1).2.2))] [(4, (43, c_0))] ?_
   refine T.ret ?_
   rw [decV (l := l) (b := b)]
   exact p_123
  refine T.skip ?_
  refine T.sr [(5, (pI 0))] [(4, (43, (c_18 b l)))] ?_
  refine T.ret ?_
  rw [decV (l := l) (b := b)]
  exact p_126
 refine TL.known 104 hb47 rfl ?_
 have hb47' := hb47
 replace hb47' := of_decide_eq_false hb47'
 refine TL.rl [(109, (pB false))] [] ?_
 refine T.cf (T.skip (T.seq ?_))
 refine T.sr [(111, (pB (decide ((getIncl l b 1).2.2 ≠ 0))))] [] ?_
 refine T.ci rfl (fun h51 => ?_) (fun h51 => ?_)
 ·refine T.sr [(5, (pI (getIncl l b 1).2.2))] [(4, (43, c_0))] ?_
  refine T.ret ?_
  rw [decV (l := l) (b := b)]
  exact p_123
 refine T.skip ?_
 refine T.sr [(5, (pI 0))] [(4, (43, (c_18 b l)))] ?_
 refine T.ret ?_
 rw [decV (l := l) (b := b)]
 exact p_126
theorem ok_laws_eqByteS (a : List Int) (b : List Int) : RO Tryz.prog 10 [.one (.ints .u8 a), .one (.ints .u8 b)] [(false, [.rd (.bool (decide (a = b)))])] := by
 refine RO.intro Tryz.func10 rfl 26 rfl (le_ok rfl) fun w Z => ?_
 refine T.bnd 0 0 rfl rfl fun hb_0_0 => ?_
 simp only [D.size, List.length_map] at hb_0_0
 refine T.bnd 1 0 rfl rfl fun hb_1_0 => ?_
 simp only [D.size, List.length_map] at hb_1_0
 refine T.sr [(4, (pB false))] [] ?_
 refine T.seq (T.sg ?_)
 refine TL.rx 1 [(6, (pS a))] [] ?_
 refine TL.c (Step.ln 5 1 (.ints .u8 a)) ?_
 refine TL.rx 1 [(8, (pS b))] [] ?_
 refine TL.c (Step.ln 5 1 (.ints .u8 b)) ?_
 refine TL.rl [(10, (pB (decide ((a.length : Int) ≠ (b.length : Int)))))] [] ?_
 refine T.ci rfl (fun h1 => ?_) (fun h1 => ?_)
 ·refine T.sr [(4, (pB false))] [] ?_
  refine T.ret ?_
  exact p_134
 refine T.skip (T.seq ?_)
 refine T.sr [(5, (pI 0))] [] ?_
 refine T.block ?_
 refine T.loop (ι := Nat) (fun xx_ => { tm := [(0, (pS a)), (1, (pS b)), (5, (pI (xx_ : Int)))], rows := [], boxes := [] }) (fun xx_ => xx_ ≤ a.length ∧ a.length = b.length ∧ a.take xx_ = b.take xx_) (fun xx_ => a.length - xx_) 0 ?_ ?_ ?_
 · refine Env.le_mk ⟨rfl, rfl, ?_, trivial⟩ trivial trivial <;> exact p_86
 · (refine ⟨Nat.zero_le _, by omega, by simp⟩)
 intro i hx
 try dsimp only at hx ⊢
 obtain ⟨hx1, hx2, hx3⟩ := hx
 refine T.seq (T.sg ?_)
 refine TL.rx 2 [(11, (pI (i : Int))), (12, (pS a))] [] ?_
 refine TL.c (Step.ln 5 1 (.ints .u8 a)) ?_
 refine TL.rl [(14, (pB (decide ((i : Int) < (a.length : Int)))))] [] ?_
 refine T.ci rfl (fun h2 => ?_) (fun h2 => ?_)
 ·refine T.skip (T.seq (T.block (T.seq ?_)))
  refine T.draw [⟨17, (pS a), []⟩, ⟨18, (pI (i : Int)), []⟩, ⟨19, (.one (.eptr (.ints .u8 a) i 0)), []⟩, ⟨20, (.one (.d (.int .u8 (a.getD i 0)))), []⟩, ⟨21, (pS b), []⟩, ⟨22, (pI (i : Int)), []⟩, ⟨23, (.one (.eptr (.ints .u8 b) i 0)), []⟩, ⟨24, (.one (.d (.int .u8 (b.getD i 0)))), []⟩, ⟨25, (pB (decide ((a.getD i 0) ≠ (b.getD i 0)))), []⟩] p_6 p_6 ?_ ?_
  ·refine .cons (fun E A => A.mv 0 17) ?_
   refine .cons (fun E A => A.mv 5 18) ?_
   refine .cons (fun E A => OpStep.plain rfl (Step.index (e := 5) (z := 1) (i := (i : Int)) (t := 19) rfl rfl p_21 p_6 (A.g 17 rfl) rfl rfl (lt_ok rfl) (A.g 18 rfl) p_17 p_39)) ?_
   refine .cons (fun E A => OpStep.plain rfl (Step.load (e := (.int .u8 (a.getD i 0))) (t := 20) rfl rfl p_21 p_6 (A.g 19 rfl) rfl)) ?_
   refine .cons (fun E A => A.mv 1 21) ?_
   refine .cons (fun E A => A.mv 5 22) ?_
   refine .cons (fun E A => OpStep.plain rfl (Step.index (e := 5) (z := 1) (i := (i : Int)) (t := 23) rfl rfl p_21 p_6 (A.g 21 rfl) rfl rfl (lt_ok rfl) (A.g 22 rfl) p_17 p_39)) ?_
   refine .cons (fun E A => OpStep.plain rfl (Step.load (e := (.int .u8 (b.getD i 0))) (t := 24) rfl rfl p_21 p_6 (A.g 23 rfl) rfl)) ?_
   refine .cons (fun E A => OpStep.plain rfl (Step.bd 25 (A.g 20 rfl) (A.g 24 rfl) (Bin.neq (k := .u8) (a := (a.getD i 0)) (b := (b.getD i 0))))) ?_
   exact .nil _ _
  refine TL.nil ?_
  refine T.ci rfl (fun h3 => ?_) (fun h3 => ?_)
  ·refine T.sr [(4, (pB false))] [] ?_
   refine T.ret ?_
   exact p_134
  refine T.skip (T.region ?_)
  refine TL.rx 1 [(15, (pI (i : Int)))] [] ?_
  refine TL.ad ((i : Int) + 1) ?_
  refine TL.rl [(5, (pI ((i : Int) + 1)))] [] ?_
  refine ⟨i + 1, by (refine ⟨by omega, hx2, take_step (d := 0) hx2 p_4 hx3 p_114⟩), by omega, Env.le_mk ⟨rfl, rfl, ?_, trivial⟩ trivial trivial⟩ <;> exact p_86
 refine T.exit ?_
 refine T.sr [(4, (pB true))] [] ?_
 refine T.ret ?_
 exact p_134
theorem ok_laws_eqVote (a : SVote) (b : SVote) : RO Tryz.prog 35 [.agg a.cells, .agg b.cells] [(false, [.rd (.bool (decide (a = b)))])] := by
 refine RO.intro Tryz.func35 rfl 32 rfl (le_ok rfl) fun w Z => ?_
 refine T.sr [(2, (.one (.ptr 2 0))), (3, (.one (.ptr 3 0))), (4, (pB false))] [(2, (26, [cI a.f0, cI a.f1, cS a.f2, cI a.f3, cS a.f4])), (3, (26, [cI b.f0, cI b.f1, cS b.f2, cI b.f3, cS b.f4]))] ?_
 refine T.seq ?_
 refine T.sr [(9, (pB (decide (a.f0 ≠ b.f0))))] [] ?_
 refine T.ci rfl (fun h1 => ?_) (fun h1 => ?_)
 ·refine T.sr [(4, (pB false))] [] ?_
  refine T.ret ?_
  exact p_151
 refine T.skip (T.seq ?_)
 refine T.sr [(14, (pB (decide (a.f1 ≠ b.f1))))] [] ?_
 refine T.ci rfl (fun h2 => ?_) (fun h2 => ?_)
 ·refine T.sr [(4, (pB false))] [] ?_
  refine T.ret ?_
  exact p_151
 refine T.skip (T.seq (T.sg ?_))
 refine TL.rx 4 [(16, (pS a.f2)), (18, (pS b.f2))] [] ?_
 refine TL.c (Step.cz (ok_laws_eqByteS a.f2 b.f2)) ?_
 refine TL.rl [(20, (pB (!(decide (a.f2 = b.f2)))))] [] ?_
 refine T.cni rfl (fun h3 => ?_) (fun h3 => ?_)
 ·refine T.sr [(4, (pB false))] [] ?_
  refine T.ret ?_
  exact p_151
 refine T.skip (T.seq ?_)
 refine T.sr [(25, (pB (decide (a.f3 ≠ b.f3))))] [] ?_
 refine T.ci rfl (fun h4 => ?_) (fun h4 => ?_)
 ·refine T.sr [(4, (pB false))] [] ?_
  refine T.ret ?_
  exact p_151
 refine T.skip (T.seq (T.sg ?_))
 refine TL.rx 4 [(27, (pS a.f4)), (29, (pS b.f4))] [] ?_
 refine TL.c (Step.cz (ok_laws_eqByteS a.f4 b.f4)) ?_
 refine TL.rl [(31, (pB (!(decide (a.f4 = b.f4)))))] [] ?_
 refine T.cni rfl (fun h5 => ?_) (fun h5 => ?_)
 ·refine T.sr [(4, (pB false))] [] ?_
  refine T.ret ?_
  exact p_151
 refine T.skip ?_
 refine T.sr [(4, (pB true))] [] ?_
 refine T.ret ?_
 exact p_151
theorem ok_laws_eqByteSS (a : List (List Int)) (b : List (List Int)) : RO Tryz.prog 86 [.one (.bss a), .one (.bss b)] [(false, [.rd (.bool (decide (a = b)))])] := by
 refine RO.intro Tryz.func86 rfl 27 rfl (le_ok rfl) fun w Z => ?_
 refine T.bnd 0 0 rfl rfl fun hb_0_0 => ?_
 simp only [D.size, List.length_map] at hb_0_0
 refine T.bnd 1 0 rfl rfl fun hb_1_0 => ?_
 simp only [D.size, List.length_map] at hb_1_0
 refine T.sr [(4, (pB false))] [] ?_
 refine T.seq (T.sg ?_)
 refine TL.rx 1 [(6, (.one (.d (.bss a))))] [] ?_
 refine TL.c (Step.ln 24 1 (.bss a)) ?_
 refine TL.rx 1 [(8, (.one (.d (.bss b))))] [] ?_
 refine TL.c (Step.ln 24 1 (.bss b)) ?_
 refine TL.rl [(10, (pB (decide ((a.length : Int) ≠ (b.length : Int)))))] [] ?_
 refine T.ci rfl (fun h1 => ?_) (fun h1 => ?_)
 ·refine T.sr [(4, (pB false))] [] ?_
  refine T.ret ?_
  exact p_134
 refine T.skip (T.seq ?_)
 refine T.sr [(5, (pI 0))] [] ?_
 refine T.block ?_
 refine T.loop (ι := Nat) (fun xx_ => { tm := [(0, (.one (.d (.bss a)))), (1, (.one (.d (.bss b)))), (5, (pI (xx_ : Int)))], rows := [], boxes := [] }) (fun xx_ => xx_ ≤ a.length ∧ a.length = b.length ∧ a.take xx_ = b.take xx_) (fun xx_ => a.length - xx_) 0 ?_ ?_ ?_
 · refine Env.le_mk ⟨rfl, rfl, ?_, trivial⟩ trivial trivial <;> exact p_86
 · (refine ⟨Nat.zero_le _, by omega, by simp⟩)
 intro i hx
 try dsimp only at hx ⊢
 obtain ⟨hx1, hx2, hx3⟩ := hx
 refine T.seq (T.sg ?_)
 refine TL.rx 2 [(11, (pI (i : Int))), (12, (.one (.d (.bss a))))] [] ?_
 refine TL.c (Step.ln 24 1 (.bss a)) ?_
 refine TL.rl [(14, (pB (decide ((i : Int) < (a.length : Int)))))] [] ?_
 refine T.ci rfl (fun h2 => ?_) (fun h2 => ?_)
 ·refine T.skip (T.seq (T.block (T.seq ?_)))
  refine T.draw [⟨17, (.one (.d (.bss a))), []⟩, ⟨18, (pI (i : Int)), []⟩, ⟨19, (.one (.eptr (.bss a) i 0)), []⟩, ⟨20, (pS (a.getD i [])), []⟩, ⟨21, (.one (.d (.bss b))), []⟩, ⟨22, (pI (i : Int)), []⟩, ⟨23, (.one (.eptr (.bss b) i 0)), []⟩, ⟨24, (pS (b.getD i [])), []⟩, ⟨25, (pB (decide ((a.getD i []) = (b.getD i [])))), []⟩, ⟨26, (pB (!(decide ((a.getD i []) = (b.getD i []))))), []⟩] p_6 p_6 ?_ ?_
  ·refine .cons (fun E A => A.mv 0 17) ?_
   refine .cons (fun E A => A.mv 5 18) ?_
   refine .cons (fun E A => OpStep.plain rfl (Step.index (e := 24) (z := 1) (i := (i : Int)) (t := 19) rfl rfl p_21 p_6 (A.g 17 rfl) rfl rfl (lt_ok rfl) (A.g 18 rfl) p_17 p_39)) ?_
   refine .cons (fun E A => OpStep.plain rfl (Step.load (e := (.ints .u8 (a.getD i []))) (t := 20) rfl rfl p_21 p_6 (A.g 19 rfl) rfl)) ?_
   refine .cons (fun E A => A.mv 1 21) ?_
   refine .cons (fun E A => A.mv 5 22) ?_
   refine .cons (fun E A => OpStep.plain rfl (Step.index (e := 24) (z := 1) (i := (i : Int)) (t := 23) rfl rfl p_21 p_6 (A.g 21 rfl) rfl rfl (lt_ok rfl) (A.g 22 rfl) p_17 p_39)) ?_
   refine .cons (fun E A => OpStep.plain rfl (Step.load (e := (.ints .u8 (b.getD i []))) (t := 24) rfl rfl p_21 p_6 (A.g 23 rfl) rfl)) ?_
   refine .cons (fun E A => OpStep.plain rfl (Step.cd (xs := [.tmp 20, .tmp 24]) (ps := [(pS (a.getD i [])), (pS (b.getD i []))]) (g := .func 10) false 25 (evs_cons (A.g 20 rfl) (evs_cons (A.g 24 rfl) (rfl))) (.cons (.one (.d _)) (.cons (.one (.d _)) .nil)) (ok_laws_eqByteS (a.getD i []) (b.getD i [])) (At.freshRows A rfl))) ?_
   refine .cons (fun E A => OpStep.plain rfl (Step.not (b := (decide ((a.getD i []) = (b.getD i [])))) (t := 26) rfl rfl p_21 (A.g 25 rfl))) ?_
   exact .nil _ _
  refine TL.nil ?_
  refine T.cni rfl (fun h3 => ?_) (fun h3 => ?_)
  ·refine T.sr [(4, (pB false))] [] ?_
   refine T.ret ?_
   exact p_134
  refine T.skip (T.region ?_)
  refine TL.rx 1 [(15, (pI (i : Int)))] [] ?_
  refine TL.ad ((i : Int) + 1) ?_
  refine TL.rl [(5, (pI ((i : Int) + 1)))] [] ?_
  refine ⟨i + 1, by (refine ⟨by omega, hx2, take_step (d := []) hx2 p_4 hx3 p_114⟩), by omega, Env.le_mk ⟨rfl, rfl, ?_, trivial⟩ trivial trivial⟩ <;> exact p_86
 refine T.exit ?_
 refine T.sr [(4, (pB true))] [] ?_
 refine T.ret ?_
 exact p_134
theorem ok_laws_eqQc (a : SQc) (b : SQc) : RO Tryz.prog 36 [.agg a.cells, .agg b.cells] [(false, [.rd (.bool (decide (a = b)))])] := by
 refine RO.intro Tryz.func36 rfl 33 rfl (le_ok rfl) fun w Z => ?_
 refine T.sr [(2, (.one (.ptr 2 0))), (3, (.one (.ptr 3 0))), (4, (pB false))] [(2, (29, [cI a.f0, cI a.f1, cS a.f2, cS a.f3, .d (.bss a.f4)])), (3, (29, [cI b.f0, cI b.f1, cS b.f2, cS b.f3, .d (.bss b.f4)]))] ?_
 refine T.seq ?_
 refine T.sr [(9, (pB (decide (a.f0 ≠ b.f0))))] [] ?_
 refine T.ci rfl (fun h1 => ?_) (fun h1 => ?_)
 ·refine T.sr [(4, (pB false))] [] ?_
  refine T.ret ?_
  exact p_152
 refine T.skip (T.seq ?_)
 refine T.sr [(14, (pB (decide (a.f1 ≠ b.f1))))] [] ?_
 refine T.ci rfl (fun h2 => ?_) (fun h2 => ?_)
 ·refine T.sr [(4, (pB false))] [] ?_
  refine T.ret ?_
  exact p_152
 refine T.skip (T.seq (T.sg ?_))
 refine TL.rx 4 [(16, (pS a.f2)), (18, (pS b.f2))] [] ?_
 refine TL.c (Step.cz (ok_laws_eqByteS a.f2 b.f2)) ?_
 refine TL.rl [(20, (pB (!(decide (a.f2 = b.f2)))))] [] ?_
 refine T.cni rfl (fun h3 => ?_) (fun h3 => ?_)
 ·refine T.sr [(4, (pB false))] [] ?_
  refine T.ret ?_
  exact p_152
 refine T.skip (T.seq (T.sg ?_))
 refine TL.rx 4 [(22, (pS a.f3)), (24, (pS b.f3))] [] ?_
 refine TL.c (Step.cz (ok_laws_eqByteS a.f3 b.f3)) ?_
 refine TL.rl [(26, (pB (!(decide (a.f3 = b.f3)))))] [] ?_
 refine T.cni rfl (fun h4 => ?_) (fun h4 => ?_)
 ·refine T.sr [(4, (pB false))] [] ?_
  refine T.ret ?_
  exact p_152
 refine T.skip (T.seq (T.sg ?_))
 refine TL.rx 4 [(28, (.one (.d (.bss a.f4)))), (30, (.one (.d (.bss b.f4))))] [] ?_
 refine TL.c (Step.cz (ok_laws_eqByteSS a.f4 b.f4)) ?_
 refine TL.rl [(32, (pB (!(decide (a.f4 = b.f4)))))] [] ?_
 refine T.cni rfl (fun h5 => ?_) (fun h5 => ?_)
 ·refine T.sr [(4, (pB false))] [] ?_
  refine T.ret ?_
  exact p_152
 refine T.skip ?_
 refine T.sr [(4, (pB true))] [] ?_
 refine T.ret ?_
 exact p_152
theorem ok_laws_eqHead (a : SHead) (b : SHead) : RO Tryz.prog 37 [.agg a.cells, .agg b.cells] [(false, [.rd (.bool (decide (a = b)))])] := by
 refine RO.intro Tryz.func37 rfl 38 rfl (le_ok rfl) fun w Z => ?_
 refine T.sr [(2, (.one (.ptr 2 0))), (3, (.one (.ptr 3 0))), (4, (pB false))] [(2, (31, [cI a.f0, cI a.f1, cI a.f2, cS a.f3, cS a.f4, cI a.f5.f0, cI a.f5.f1, cS a.f5.f2, cS a.f5.f3, .d (.bss a.f5.f4)])), (3, (31, [cI b.f0, cI b.f1, cI b.f2, cS b.f3, cS b.f4, cI b.f5.f0, cI b.f5.f1, cS b.f5.f2, cS b.f5.f3, .d (.bss b.f5.f4)]))] ?_
 refine T.seq ?_
 refine T.sr [(9, (pB (decide (a.f0 ≠ b.f0))))] [] ?_
 refine T.ci rfl (fun h1 => ?_) (fun h1 => ?_)
 ·refine T.sr [(4, (pB false))] [] ?_
  refine T.ret ?_
  exact p_143
 refine T.skip (T.seq ?_)
 refine T.sr [(14, (pB (decide (a.f1 ≠ b.f1))))] [] ?_
 refine T.ci rfl (fun h2 => ?_) (fun h2 => ?_)
 ·refine T.sr [(4, (pB false))] [] ?_
  refine T.ret ?_
  exact p_143
 refine T.skip (T.seq ?_)
 refine T.sr [(19, (pB (decide (a.f2 ≠ b.f2))))] [] ?_
 refine T.ci rfl (fun h3 => ?_) (fun h3 => ?_)
 ·refine T.sr [(4, (pB false))] [] ?_
  refine T.ret ?_
  exact p_143
 refine T.skip (T.seq (T.sg ?_))
 refine TL.rx 4 [(21, (pS a.f3)), (23, (pS b.f3))] [] ?_
 refine TL.c (Step.cz (ok_laws_eqByteS a.f3 b.f3)) ?_
 refine TL.rl [(25, (pB (!(decide (a.f3 = b.f3)))))] [] ?_
 refine T.cni rfl (fun h4 => ?_) (fun h4 => ?_)
 ·refine T.sr [(4, (pB false))] [] ?_
  refine T.ret ?_
  exact p_143
 refine T.skip (T.seq (T.sg ?_))
 refine TL.rx 4 [(27, (pS a.f4)), (29, (pS b.f4))] [] ?_
 refine TL.c (Step.cz (ok_laws_eqByteS a.f4 b.f4)) ?_
 refine TL.rl [(31, (pB (!(decide (a.f4 = b.f4)))))] [] ?_
 refine T.cni rfl (fun h5 => ?_) (fun h5 => ?_)
 ·refine T.sr [(4, (pB false))] [] ?_
  refine T.ret ?_
  exact p_143
 refine T.skip (T.seq (T.sg ?_))
 refine TL.rx 4 [(33, (.agg [cI a.f5.f0, cI a.f5.f1, cS a.f5.f2, cS a.f5.f3, .d (.bss a.f5.f4)])), (35, (.agg [cI b.f5.f0, cI b.f5.f1, cS b.f5.f2, cS b.f5.f3, .d (.bss b.f5.f4)]))] [] ?_
 refine TL.c (Step.cz (ok_laws_eqQc a.f5 b.f5)) ?_
 refine TL.rl [(37, (pB (!(decide (a.f5 = b.f5)))))] [] ?_
 refine T.cni rfl (fun h6 => ?_) (fun h6 => ?_)
 ·refine T.sr [(4, (pB false))] [] ?_
  refine T.ret ?_
  exact p_143
 refine T.skip ?_
 refine T.sr [(4, (pB true))] [] ?_
 refine T.ret ?_
 exact p_143
theorem ok_laws_eqBlock (a : SBlock) (b : SBlock) : RO Tryz.prog 38 [.agg a.cells, .agg b.cells] [(false, [.rd (.bool (decide (a = b)))])] := by
 refine RO.intro Tryz.func38 rfl 17 rfl (le_ok rfl) fun w Z => ?_
 refine T.sr [(2, (.one (.ptr 2 0))), (3, (.one (.ptr 3 0))), (4, (pB false))] [(2, (33, [cI a.f0.f0, cI a.f0.f1, cI a.f0.f2, cS a.f0.f3, cS a.f0.f4, cI a.f0.f5.f0, cI a.f0.f5.f1, cS a.f0.f5.f2, cS a.f0.f5.f3, .d (.bss a.f0.f5.f4), .d (.bss a.f1)])), (3, (33, (c_64 b)))] ?_
 refine T.seq (T.sg ?_)
 refine TL.rx 4 [(6, (.agg [cI a.f0.f0, cI a.f0.f1, cI a.f0.f2, cS a.f0.f3, cS a.f0.f4, cI a.f0.f5.f0, cI a.f0.f5.f1, cS a.f0.f5.f2, cS a.f0.f5.f3, .d (.bss a.f0.f5.f4)])), (8, (.agg (c_67 b)))] [] ?_
 refine TL.c (Step.cz (ok_laws_eqHead a.f0 b.f0)) ?_
 refine TL.rl [(10, (pB (!(decide (a.f0 = b.f0)))))] [] ?_
 refine T.cni rfl (fun h1 => ?_) (fun h1 => ?_)
 ·refine T.sr [(4, (pB false))] [] ?_
  refine T.ret ?_
  exact p_186
 refine T.skip (T.seq (T.sg ?_))
 refine TL.rx 4 [(12, (.one (.d (.bss a.f1)))), (14, (.one (.d (.bss b.f1))))] [] ?_
 refine TL.c (Step.cz (ok_laws_eqByteSS a.f1 b.f1)) ?_
 refine TL.rl [(16, (pB (!(decide (a.f1 = b.f1)))))] [] ?_
 refine T.cni rfl (fun h2 => ?_) (fun h2 => ?_)
 ·refine T.sr [(4, (pB false))] [] ?_
  refine T.ret ?_
  exact p_186
 refine T.skip ?_
 refine T.sr [(4, (pB true))] [] ?_
 refine T.ret ?_
 exact p_186
theorem ok_laws_eqEntry (a : SEntry) (b : SEntry) : RO Tryz.prog 122 [.agg a.cells, .agg b.cells] [(false, [.rd (.bool (decide (a = b)))])] := by
 refine RO.intro Tryz.func122 rfl 21 rfl (le_ok rfl) fun w Z => ?_
 refine T.sr [(2, (.one (.ptr 2 0))), (3, (.one (.ptr 3 0))), (4, (pB false))] [(2, (111, [cI a.f0, cI a.f1, cS a.f2])), (3, (111, [cI b.f0, cI b.f1, cS b.f2]))] ?_
 refine T.seq ?_
 refine T.sr [(9, (pB (decide (a.f0 ≠ b.f0))))] [] ?_
 refine T.ci rfl (fun h1 => ?_) (fun h1 => ?_)
 ·refine T.sr [(4, (pB false))] [] ?_
  refine T.ret ?_
  exact p_172
 refine T.skip (T.seq ?_)
 refine T.sr [(14, (pB (decide (a.f1 ≠ b.f1))))] [] ?_
 refine T.ci rfl (fun h2 => ?_) (fun h2 => ?_)
 ·refine T.sr [(4, (pB false))] [] ?_
  refine T.ret ?_
  exact p_172
 refine T.skip (T.seq (T.sg ?_))
 refine TL.rx 4 [(16, (pS a.f2)), (18, (pS b.f2))] [] ?_
 refine TL.c (Step.cz (ok_laws_eqByteS a.f2 b.f2)) ?_
 refine TL.rl [(20, (pB (!(decide (a.f2 = b.f2)))))] [] ?_
 refine T.cni rfl (fun h3 => ?_) (fun h3 => ?_)
 ·refine T.sr [(4, (pB false))] [] ?_
  refine T.ret ?_
  exact p_172
 refine T.skip ?_
 refine T.sr [(4, (pB true))] [] ?_
 refine T.ret ?_
 exact p_172
theorem ok_laws_eqEntryS (a : List SEntry) (b : List SEntry) : RO Tryz.prog 87 [.one (.sl 3 (a.map SEntry.cells)), .one (.sl 3 (b.map SEntry.cells))] [(false, [.rd (.bool (decide (a = b)))])] := by
 refine RO.intro Tryz.func87 rfl 27 rfl (le_ok rfl) fun w Z => ?_
 refine T.bnd 0 0 rfl rfl fun hb_0_0 => ?_
 simp only [D.size, List.length_map] at hb_0_0
 refine T.bnd 1 0 rfl rfl fun hb_1_0 => ?_
 simp only [D.size, List.length_map] at hb_1_0
 refine T.sr [(4, (pB false))] [] ?_
 refine T.seq (T.sg ?_)
 refine TL.rx 1 [(6, (.one (.d (.sl 3 (a.map SEntry.cells)))))] [] ?_
 refine TL.c (Step.len' (e := 111) (z := 3) (d := (.sl 3 (a.map SEntry.cells))) (n := a.length) rfl rfl (lt_ok rfl) p_6 rfl rfl p_120) ?_
 refine TL.rx 1 [(8, (.one (.d (.sl 3 (b.map SEntry.cells)))))] [] ?_
 refine TL.c (Step.len' (e := 111) (z := 3) (d := (.sl 3 (b.map SEntry.cells))) (n := b.length) rfl rfl (lt_ok rfl) p_6 rfl rfl p_120) ?_
 refine TL.rl [(10, (pB (decide ((a.length : Int) ≠ (b.length : Int)))))] [] ?_
 refine T.ci rfl (fun h1 => ?_) (fun h1 => ?_)
 ·refine T.sr [(4, (pB false))] [] ?_
  refine T.ret ?_
  exact p_134
 refine T.skip (T.seq ?_)
 refine T.sr [(5, (pI 0))] [] ?_
 refine T.block ?_
 refine T.loop (ι := Nat) (fun xx_ => { tm := [(0, (.one (.d (.sl 3 (a.map SEntry.cells))))), (1, (.one (.d (.sl 3 (b.map SEntry.cells))))), (5, (pI (xx_ : Int)))], rows := [], boxes := [] }) (fun xx_ => xx_ ≤ a.length ∧ a.length = b.length ∧ a.take xx_ = b.take xx_) (fun xx_ => a.length - xx_) 0 ?_ ?_ ?_
 · refine Env.le_mk ⟨rfl, rfl, ?_, trivial⟩ trivial trivial <;> exact p_86
 · (refine ⟨Nat.zero_le _, by omega, by simp⟩)
 intro i hx
 try dsimp only at hx ⊢
 obtain ⟨hx1, hx2, hx3⟩ := hx
 refine T.seq (T.sg ?_)
 refine TL.rx 2 [(11, (pI (i : Int))), (12, (.one (.d (.sl 3 (a.map SEntry.cells)))))] [] ?_
 refine TL.c (Step.len' (e := 111) (z := 3) (d := (.sl 3 (a.map SEntry.cells))) (n := a.length) rfl rfl (lt_ok rfl) p_6 rfl rfl p_120) ?_
 refine TL.rl [(14, (pB (decide ((i : Int) < (a.length : Int)))))] [] ?_
 refine T.ci rfl (fun h2 => ?_) (fun h2 => ?_)
 ·refine T.skip (T.seq (T.block (T.seq ?_)))
  refine T.draw [⟨17, (.one (.d (.sl 3 (a.map SEntry.cells)))), []⟩, ⟨18, (pI (i : Int)), []⟩, ⟨19, (.one (.eptr (.sl 3 (a.map SEntry.cells)) i 0)), []⟩, ⟨20, (.agg (c_77 a i)), []⟩, ⟨21, (.one (.d (.sl 3 (b.map SEntry.cells)))), []⟩, ⟨22, (pI (i : Int)), []⟩, ⟨23, (.one (.eptr (.sl 3 (b.map SEntry.cells)) i 0)), []⟩, ⟨24, (.agg (c_78 b i)), []⟩, ⟨25, (pB (decide ((a.getD i default) = (b.getD i default)))), []⟩, ⟨26, (pB (!(decide ((a.getD i default) = (b.getD i default))))), []⟩] p_6 p_6 ?_ ?_
  ·refine .cons (fun E A => A.mv 0 17) ?_
   refine .cons (fun E A => A.mv 5 18) ?_
   refine .cons (fun E A => OpStep.plain rfl (Step.index (e := 111) (z := 3) (i := (i : Int)) (t := 19) rfl rfl p_21 p_6 (A.g 17 rfl) rfl rfl (lt_ok rfl) (A.g 18 rfl) p_17 p_39)) ?_
   refine .cons (fun E A => OpStep.plain rfl (Step.load_agg (n := 3) (cs := (c_77 a i)) (t := 20) rfl rfl p_21 p_6 (A.g 19 rfl) rfl p_100)) ?_
   refine .cons (fun E A => A.mv 1 21) ?_
   refine .cons (fun E A => A.mv 5 22) ?_
   refine .cons (fun E A => OpStep.plain rfl (Step.index (e := 111) (z := 3) (i := (i : Int)) (t := 23) rfl rfl p_21 p_6 (A.g 21 rfl) rfl rfl (lt_ok rfl) (A.g 22 rfl) p_17 p_39)) ?_
   refine .cons (fun E A => OpStep.plain rfl (Step.load_agg (n := 3) (cs := (c_78 b i)) (t := 24) rfl rfl p_21 p_6 (A.g 23 rfl) rfl p_100)) ?_
   refine .cons (fun E A => OpStep.plain rfl (Step.cd (xs := [.tmp 20, .tmp 24]) (ps := [(.agg (c_77 a i)), (.agg (c_78 b i))]) (g := .func 122) false 25 (evs_cons (A.g 20 rfl) (evs_cons (A.g 24 rfl) (rfl))) (.cons (.agg (.cons (.d _) (.cons (.d _) (.cons (.d _) .nil)))) (.cons (.agg (.cons (.d _) (.cons (.d _) (.cons (.d _) .nil)))) .nil)) (ok_laws_eqEntry (a.getD i default) (b.getD i default)) (At.freshRows A rfl))) ?_
   refine .cons (fun E A => OpStep.plain rfl (Step.not (b := (decide ((a.getD i default) = (b.getD i default)))) (t := 26) rfl rfl p_21 (A.g 25 rfl))) ?_
   exact .nil _ _
  refine TL.nil ?_
  refine T.cni rfl (fun h3 => ?_) (fun h3 => ?_)
  ·refine T.sr [(4, (pB false))] [] ?_
   refine T.ret ?_
   exact p_134
  refine T.skip (T.region ?_)
  refine TL.rx 1 [(15, (pI (i : Int)))] [] ?_
  refine TL.ad ((i : Int) + 1) ?_
  refine TL.rl [(5, (pI ((i : Int) + 1)))] [] ?_
  refine ⟨i + 1, by (refine ⟨by omega, hx2, take_step (d := default) hx2 p_4 hx3 p_114⟩), by omega, Env.le_mk ⟨rfl, rfl, ?_, trivial⟩ trivial trivial⟩ <;> exact p_86
 refine T.exit ?_
 refine T.sr [(4, (pB true))] [] ?_
 refine T.ret ?_
 exact p_134
theorem ok_laws_eqTc (a : STc) (b : STc) : RO Tryz.prog 39 [.agg a.cells, .agg b.cells] [(false, [.rd (.bool (decide (a = b)))])] := by
 refine RO.intro Tryz.func39 rfl 16 rfl (le_ok rfl) fun w Z => ?_
 refine T.sr [(2, (.one (.ptr 2 0))), (3, (.one (.ptr 3 0))), (4, (pB false))] [(2, (36, [cI a.f0, .d (.sl 3 (a.f1.map SEntry.cells))])), (3, (36, [cI b.f0, .d (.sl 3 (b.f1.map SEntry.cells))]))] ?_
 refine T.seq ?_
 refine T.sr [(9, (pB (decide (a.f0 ≠ b.f0))))] [] ?_
 refine T.ci rfl (fun h1 => ?_) (fun h1 => ?_)
 ·refine T.sr [(4, (pB false))] [] ?_
  refine T.ret ?_
  exact p_187
 refine T.skip (T.seq (T.sg ?_))
 refine TL.rx 4 [(11, (.one (.d (.sl 3 (a.f1.map SEntry.cells))))), (13, (.one (.d (.sl 3 (b.f1.map SEntry.cells)))))] [] ?_
 refine TL.c (Step.cz (ok_laws_eqEntryS a.f1 b.f1)) ?_
 refine TL.rl [(15, (pB (!(decide (a.f1 = b.f1)))))] [] ?_
 refine T.cni rfl (fun h2 => ?_) (fun h2 => ?_)
 ·refine T.sr [(4, (pB false))] [] ?_
  refine T.ret ?_
  exact p_187
 refine T.skip ?_
 refine T.sr [(4, (pB true))] [] ?_
 refine T.ret ?_
 exact p_187
theorem ok_laws_eqHeadS (a : List SHead) (b : List SHead) : RO Tryz.prog 88 [.one (.sl 10 (a.map SHead.cells)), .one (.sl 10 (b.map SHead.cells))] [(false, [.rd (.bool (decide (a = b)))])] := by
 refine RO.intro Tryz.func88 rfl 27 rfl (le_ok rfl) fun w Z => ?_
 refine T.bnd 0 0 rfl rfl fun hb_0_0 => ?_
 simp only [D.size, List.length_map] at hb_0_0
 refine T.bnd 1 0 rfl rfl fun hb_1_0 => ?_
 simp only [D.size, List.length_map] at hb_1_0
 refine T.sr [(4, (pB false))] [] ?_
 refine T.seq (T.sg ?_)
 refine TL.rx 1 [(6, (.one (.d (.sl 10 (a.map SHead.cells)))))] [] ?_
 refine TL.c (Step.len' (e := 31) (z := 10) (d := (.sl 10 (a.map SHead.cells))) (n := a.length) rfl rfl (lt_ok rfl) p_6 rfl rfl p_120) ?_
 refine TL.rx 1 [(8, (.one (.d (.sl 10 (b.map SHead.cells)))))] [] ?_
 refine TL.c (Step.len' (e := 31) (z := 10) (d := (.sl 10 (b.map SHead.cells))) (n := b.length) rfl rfl (lt_ok rfl) p_6 rfl rfl p_120) ?_
 refine TL.rl [(10, (pB (decide ((a.length : Int) ≠ (b.length : Int)))))] [] ?_
 refine T.ci rfl (fun h1 => ?_) (fun h1 => ?_)
 ·refine T.sr [(4, (pB false))] [] ?_
  refine T.ret ?_
  exact p_134
 refine T.skip (T.seq ?_)
 refine T.sr [(5, (pI 0))] [] ?_
 refine T.block ?_
 refine T.loop (ι := Nat) (fun xx_ => { tm := [(0, (.one (.d (.sl 10 (a.map SHead.cells))))), (1, (.one (.d (.sl 10 (b.map SHead.cells))))), (5, (pI (xx_ : Int)))], rows := [], boxes := [] }) (fun xx_ => xx_ ≤ a.length ∧ a.length = b.length ∧ a.take xx_ = b.take xx_) (fun xx_ => a.length - xx_) 0 ?_ ?_ ?_
 · refine Env.le_mk ⟨rfl, rfl, ?_, trivial⟩ trivial trivial <;> exact p_86
 · (refine ⟨Nat.zero_le _, by omega, by simp⟩)
 intro i hx
 try dsimp only at hx ⊢
 obtain ⟨hx1, hx2, hx3⟩ := hx
 refine T.seq (T.sg ?_)
 refine TL.rx 2 [(11, (pI (i : Int))), (12, (.one (.d (.sl 10 (a.map SHead.cells)))))] [] ?_
 refine TL.c (Step.len' (e := 31) (z := 10) (d := (.sl 10 (a.map SHead.cells))) (n := a.length) rfl rfl (lt_ok rfl) p_6 rfl rfl p_120) ?_
 refine TL.rl [(14, (pB (decide ((i : Int) < (a.length : Int)))))] [] ?_
 refine T.ci rfl (fun h2 => ?_) (fun h2 => ?_)
 ·refine T.skip (T.seq (T.block (T.seq ?_)))
  refine T.draw [⟨17, (.one (.d (.sl 10 (a.map SHead.cells)))), []⟩, ⟨18, (pI (i : Int)), []⟩, ⟨19, (.one (.eptr (.sl 10 (a.map SHead.cells)) i 0)), []⟩, ⟨20, (.agg (c_31 a i)), []⟩, ⟨21, (.one (.d (.sl 10 (b.map SHead.cells)))), []⟩, ⟨22, (pI (i : Int)), []⟩, ⟨23, (.one (.eptr (.sl 10 (b.map SHead.cells)) i 0)), []⟩, ⟨24, (.agg (c_32 b i)), []⟩, ⟨25, (pB (decide ((a.getD i default) = (b.getD i default)))), []⟩, ⟨26, (pB (!(decide ((a.getD i default) = (b.getD i default))))), []⟩] p_6 p_6 ?_ ?_
  ·refine .cons (fun E A => A.mv 0 17) ?_
   refine .cons (fun E A => A.mv 5 18) ?_
   refine .cons (fun E A => OpStep.plain rfl (Step.index (e := 31) (z := 10) (i := (i : Int)) (t := 19) rfl rfl p_21 p_6 (A.g 17 rfl) rfl rfl (lt_ok rfl) (A.g 18 rfl) p_17 p_39)) ?_
   refine .cons (fun E A => OpStep.plain rfl (Step.load_agg (n := 10) (cs := (c_31 a i)) (t := 20) rfl rfl p_21 p_6 (A.g 19 rfl) rfl p_34)) ?_
   refine .cons (fun E A => A.mv 1 21) ?_
   refine .cons (fun E A => A.mv 5 22) ?_
   refine .cons (fun E A => OpStep.plain rfl (Step.index (e := 31) (z := 10) (i := (i : Int)) (t := 23) rfl rfl p_21 p_6 (A.g 21 rfl) rfl rfl (lt_ok rfl) (A.g 22 rfl) p_17 p_39)) ?_
   refine .cons (fun E A => OpStep.plain rfl (Step.load_agg (n := 10) (cs := (c_32 b i)) (t := 24) rfl rfl p_21 p_6 (A.g 23 rfl) rfl p_34)) ?_
   refine .cons (fun E A => OpStep.plain rfl (Step.cd (xs := [.tmp 20, .tmp 24]) (ps := [(.agg (c_31 a i)), (.agg (c_32 b i))]) (g := .func 37) false 25 (evs_cons (A.g 20 rfl) (evs_cons (A.g 24 rfl) (rfl))) (.cons (.agg (.cons (.d _) (.cons (.d _) (.cons (.d _) (.cons (.d _) (.cons (.d _) (.cons (.d _) (.cons (.d _) (.cons (.d _) (.cons (.d _) (.cons (.d _) .nil))))))))))) (.cons (.agg (.cons (.d _) (.cons (.d _) (.cons (.d _) (.cons (.d _) (.cons (.d _) (.cons (.d _) (.cons (.d _) (.cons (.d _) (.cons (.d _) (.cons (.d _) .nil))))))))))) .nil)) (ok_laws_eqHead (a.getD i default) (b.getD i default)) (At.freshRows A rfl))) ?_
   refine .cons (fun E A => OpStep.plain rfl (Step.not (b := (decide ((a.getD i default) = (b.getD i default)))) (t := 26) rfl rfl p_21 (A.g 25 rfl))) ?_
   exact .nil _ _
  refine TL.nil ?_
  refine T.cni rfl (fun h3 => ?_) (fun h3 => ?_)
  ·refine T.sr [(4, (pB false))] [] ?_
   refine T.ret ?_
   exact p_134
  refine T.skip (T.region ?_)
  refine TL.rx 1 [(15, (pI (i : Int)))] [] ?_
  refine TL.ad ((i : Int) + 1) ?_
  refine TL.rl [(5, (pI ((i : Int) + 1)))] [] ?_
  refine ⟨i + 1, by (refine ⟨by omega, hx2, take_step (d := default) hx2 p_4 hx3 p_114⟩), by omega, Env.le_mk ⟨rfl, rfl, ?_, trivial⟩ trivial trivial⟩ <;> exact p_86
 refine T.exit ?_
 refine T.sr [(4, (pB true))] [] ?_
 refine T.ret ?_
 exact p_134
theorem ok_laws_eqProof (a : SProof) (b : SProof) : RO Tryz.prog 40 [.agg a.cells, .agg b.cells] [(false, [.rd (.bool (decide (a = b)))])] := by
 refine RO.intro Tryz.func40 rfl 17 rfl (le_ok rfl) fun w Z => ?_
 refine T.sr [(2, (.one (.ptr 2 0))), (3, (.one (.ptr 3 0))), (4, (pB false))] [(2, (39, [.d (.sl 10 (a.f0.map SHead.cells)), cI a.f1.f0, cI a.f1.f1, cS a.f1.f2, cS a.f1.f3, .d (.bss a.f1.f4)])), (3, (39, [.d (.sl 10 (b.f0.map SHead.cells)), cI b.f1.f0, cI b.f1.f1, cS b.f1.f2, cS b.f1.f3, .d (.bss b.f1.f4)]))] ?_
 refine T.seq (T.sg ?_)
 refine TL.rx 4 [(6, (.one (.d (.sl 10 (a.f0.map SHead.cells))))), (8, (.one (.d (.sl 10 (b.f0.map SHead.cells)))))] [] ?_
 refine TL.c (Step.cz (ok_laws_eqHeadS a.f0 b.f0)) ?_
 refine TL.rl [(10, (pB (!(decide (a.f0 = b.f0)))))] [] ?_
 refine T.cni rfl (fun h1 => ?_) (fun h1 => ?_)
 ·refine T.sr [(4, (pB false))] [] ?_
  refine T.ret ?_
  exact p_188
 refine T.skip (T.seq (T.sg ?_))
 refine TL.rx 4 [(12, (.agg [cI a.f1.f0, cI a.f1.f1, cS a.f1.f2, cS a.f1.f3, .d (.bss a.f1.f4)])), (14, (.agg [cI b.f1.f0, cI b.f1.f1, cS b.f1.f2, cS b.f1.f3, .d (.bss b.f1.f4)]))] [] ?_
 refine TL.c (Step.cz (ok_laws_eqQc a.f1 b.f1)) ?_
 refine TL.rl [(16, (pB (!(decide (a.f1 = b.f1)))))] [] ?_
 refine T.cni rfl (fun h2 => ?_) (fun h2 => ?_)
 ·refine T.sr [(4, (pB false))] [] ?_
  refine T.ret ?_
  exact p_188
 refine T.skip ?_
 refine T.sr [(4, (pB true))] [] ?_
 refine T.ret ?_
 exact p_188
theorem ok_laws_eqIncl (a : SIncl) (b : SIncl) : RO Tryz.prog 41 [.agg a.cells, .agg b.cells] [(false, [.rd (.bool (decide (a = b)))])] := by
 refine RO.intro Tryz.func41 rfl 32 rfl (le_ok rfl) fun w Z => ?_
 refine T.sr [(2, (.one (.ptr 2 0))), (3, (.one (.ptr 3 0))), (4, (pB false))] [(2, (41, [cI a.f0, cI a.f1, cI a.f2, cS a.f3, .d (.bss a.f4)])), (3, (41, [cI b.f0, cI b.f1, cI b.f2, cS b.f3, .d (.bss b.f4)]))] ?_
 refine T.seq ?_
 refine T.sr [(9, (pB (decide (a.f0 ≠ b.f0))))] [] ?_
 refine T.ci rfl (fun h1 => ?_) (fun h1 => ?_)
 ·refine T.sr [(4, (pB false))] [] ?_
  refine T.ret ?_
  exact p_153
 refine T.skip (T.seq ?_)
 refine T.sr [(14, (pB (decide (a.f1 ≠ b.f1))))] [] ?_
 refine T.ci rfl (fun h2 => ?_) (fun h2 => ?_)
 ·refine T.sr [(4, (pB false))] [] ?_
  refine T.ret ?_
  exact p_153
 refine T.skip (T.seq ?_)
 refine T.sr [(19, (pB (decide (a.f2 ≠ b.f2))))] [] ?_
 refine T.ci rfl (fun h3 => ?_) (fun h3 => ?_)
 ·refine T.sr [(4, (pB false))] [] ?_
  refine T.ret ?_
  exact p_153
 refine T.skip (T.seq (T.sg ?_))
 refine TL.rx 4 [(21, (pS a.f3)), (23, (pS b.f3))] [] ?_
 refine TL.c (Step.cz (ok_laws_eqByteS a.f3 b.f3)) ?_
 refine TL.rl [(25, (pB (!(decide (a.f3 = b.f3)))))] [] ?_
 refine T.cni rfl (fun h4 => ?_) (fun h4 => ?_)
 ·refine T.sr [(4, (pB false))] [] ?_
  refine T.ret ?_
  exact p_153
 refine T.skip (T.seq (T.sg ?_))
 refine TL.rx 4 [(27, (.one (.d (.bss a.f4)))), (29, (.one (.d (.bss b.f4))))] [] ?_
 refine TL.c (Step.cz (ok_laws_eqByteSS a.f4 b.f4)) ?_
 refine TL.rl [(31, (pB (!(decide (a.f4 = b.f4)))))] [] ?_
 refine T.cni rfl (fun h5 => ?_) (fun h5 => ?_)
 ·refine T.sr [(4, (pB false))] [] ?_
  refine T.ret ?_
  exact p_153
 refine T.skip ?_
 refine T.sr [(4, (pB true))] [] ?_
 refine T.ret ?_
 exact p_153
theorem ok_laws_eqMsg (a : SMsg) (b : SMsg) : RO Tryz.prog 9 [.agg a.cells, .agg b.cells] [(false, [.rd (.bool (decide (a = b)))])] := by
 refine RO.intro Tryz.func9 rfl 52 rfl (le_ok rfl) fun w Z => ?_
 refine T.sr [(2, (.one (.ptr 2 0))), (3, (.one (.ptr 3 0))), (4, (pB false))] [(2, (43, [cI a.f0, cI a.f1.f0, cI a.f1.f1, cS a.f1.f2, cI a.f1.f3, cS a.f1.f4, cI a.f2.f0, cI a.f2.f1, cS a.f2.f2, cS a.f2.f3, .d (.bss a.f2.f4), cI a.f3.f0, cI a.f3.f1, cI a.f3.f2, cS a.f3.f3, cS a.f3.f4, cI a.f3.f5.f0, cI a.f3.f5.f1, cS a.f3.f5.f2, cS a.f3.f5.f3, .d (.bss a.f3.f5.f4), cI a.f4.f0.f0, cI a.f4.f0.f1, cI a.f4.f0.f2, cS a.f4.f0.f3, cS a.f4.f0.f4, cI a.f4.f0.f5.f0, cI a.f4.f0.f5.f1, cS a.f4.f0.f5.f2, cS a.f4.f0.f5.f3, .d (.bss a.f4.f0.f5.f4), .d (.bss a.f4.f1), cI a.f5.f0, .d (.sl 3 (a.f5.f1.map SEntry.cells)), .d (.sl 10 (a.f6.f0.map SHead.cells)), cI a.f6.f1.f0, cI a.f6.f1.f1, cS a.f6.f1.f2, cS a.f6.f1.f3, .d (.bss a.f6.f1.f4), cI a.f7.f0, cI a.f7.f1, cI a.f7.f2, cS a.f7.f3, .d (.bss a.f7.f4)])), (3, (43, [cI b.f0, cI b.f1.f0, cI b.f1.f1, cS b.f1.f2, cI b.f1.f3, cS b.f1.f4, cI b.f2.f0, cI b.f2.f1, cS b.f2.f2, cS b.f2.f3, .d (.bss b.f2.f4), cI b.f3.f0, cI b.f3.f1, cI b.f3.f2, cS b.f3.f3, cS b.f3.f4, cI b.f3.f5.f0, cI b.f3.f5.f1, cS b.f3.f5.f2, cS b.f3.f5.f3, .d (.bss b.f3.f5.f4), cI b.f4.f0.f0, cI b.f4.f0.f1, cI b.f4.f0.f2, cS b.f4.f0.f3, cS b.f4.f0.f4, cI b.f4.f0.f5.f0, cI b.f4.f0.f5.f1, cS b.f4.f0.f5.f2, cS b.f4.f0.f5.f3, .d (.bss b.f4.f0.f5.f4), .d (.bss b.f4.f1), cI b.f5.f0, .d (.sl 3 (b.f5.f1.map SEntry.cells)), .d (.sl 10 (b.f6.f0.map SHead.cells)), cI b.f6.f1.f0, cI b.f6.f1.f1, cS b.f6.f1.f2, cS b.f6.f1.f3, .d (.bss b.f6.f1.f4), cI b.f7.f0, cI b.f7.f1, cI b.f7.f2, cS b.f7.f3, .d (.bss b.f7.f4)]))] ?_
 refine T.wk [(2, (.one (.ptr 2 0))), (3, (.one (.ptr 3 0))), (4, (pB false))] [] [(2, (43, [cI a.f0, cI a.f1.f0, cI a.f1.f1, cS a.f1.f2, cI a.f1.f3, cS a.f1.f4, cI a.f2.f0, cI a.f2.f1, cS a.f2.f2, cS a.f2.f3, .d (.bss a.f2.f4), cI a.f3.f0, cI a.f3.f1, cI a.f3.f2, cS a.f3.f3, cS a.f3.f4, cI a.f3.f5.f0, cI a.f3.f5.f1, cS a.f3.f5.f2, cS a.f3.f5.f3, .d (.bss a.f3.f5.f4), cI a.f4.f0.f0, cI a.f4.f0.f1, cI a.f4.f0.f2, cS a.f4.f0.f3, cS a.f4.f0.f4, cI a.f4.f0.f5.f0, cI a.f4.f0.f5.f1, cS a.f4.f0.f5.f2, cS a.f4.f0.f5.f3, .d (.bss a.f4.f0.f5.f4), .d (.bss a.f4.f1), cI a.f5.f0, .d (.sl 3 (a.f5.f1.map SEntry.cells)), .d (.sl 10 (a.f6.f0.map SHead.cells)), cI a.f6.f1.f0, cI a.f6.f1.f1, cS a.f6.f1.f2, cS a.f6.f1.f3, .d (.bss a.f6.f1.f4), cI a.f7.f0, cI a.f7.f1, cI a.f7.f2, cS a.f7.f3, .d (.bss a.f7.f4)])), (3, (43, [cI b.f0, cI b.f1.f0, cI b.f1.f1, cS b.f1.f2, cI b.f1.f3, cS b.f1.f4, cI b.f2.f0, cI b.f2.f1, cS b.f2.f2, cS b.f2.f3, .d (.bss b.f2.f4), cI b.f3.f0, cI b.f3.f1, cI b.f3.f2, cS b.f3.f3, cS b.f3.f4, cI b.f3.f5.f0, cI b.f3.f5.f1, cS b.f3.f5.f2, cS b.f3.f5.f3, .d (.bss b.f3.f5.f4), cI b.f4.f0.f0, cI b.f4.f0.f1, cI b.f4.f0.f2, cS b.f4.f0.f3, cS b.f4.f0.f4, cI b.f4.f0.f5.f0, cI b.f4.f0.f5.f1, cS b.f4.f0.f5.f2, cS b.f4.f0.f5.f3, .d (.bss b.f4.f0.f5.f4), .d (.bss b.f4.f1), cI b.f5.f0, .d (.sl 3 (b.f5.f1.map SEntry.cells)), .d (.sl 10 (b.f6.f0.map SHead.cells)), cI b.f6.f1.f0, cI b.f6.f1.f1, cS b.f6.f1.f2, cS b.f6.f1.f3, .d (.bss b.f6.f1.f4), cI b.f7.f0, cI b.f7.f1, cI b.f7.f2, cS b.f7.f3, .d (.bss b.f7.f4)]))] ?_
 refine T.seq ?_
 refine T.sr [(9, (pB (decide (a.f0 ≠ b.f0))))] [] ?_
 refine T.ci rfl (fun h1 => ?_) (fun h1 => ?_)
 ·refine T.sr [(4, (pB false))] [] ?_
  refine T.ret ?_
  exact p_141
 refine T.skip (T.seq (T.sg ?_))
 refine TL.rx 4 [(11, (.agg [cI a.f1.f0, cI a.f1.f1, cS a.f1.f2, cI a.f1.f3, cS a.f1.f4])), (13, (.agg [cI b.f1.f0, cI b.f1.f1, cS b.f1.f2, cI b.f1.f3, cS b.f1.f4]))] [] ?_
 refine TL.c (Step.cz (ok_laws_eqVote a.f1 b.f1)) ?_
 refine TL.rl [(15, (pB (!(decide (a.f1 = b.f1)))))] [] ?_
 refine T.cni rfl (fun h2 => ?_) (fun h2 => ?_)
 ·refine T.sr [(4, (pB false))] [] ?_
  refine T.ret ?_
  exact p_141
 refine T.skip (T.seq (T.sg ?_))
 refine TL.rx 4 [(17, (.agg [cI a.f2.f0, cI a.f2.f1, cS a.f2.f2, cS a.f2.f3, .d (.bss a.f2.f4)])), (19, (.agg [cI b.f2.f0, cI b.f2.f1, cS b.f2.f2, cS b.f2.f3, .d (.bss b.f2.f4)]))] [] ?_
 refine TL.c (Step.cz (ok_laws_eqQc a.f2 b.f2)) ?_
 refine TL.rl [(21, (pB (!(decide (a.f2 = b.f2)))))] [] ?_
 refine T.cni rfl (fun h3 => ?_) (fun h3 => ?_)
 ·refine T.sr [(4, (pB false))] [] ?_
  refine T.ret ?_
  exact p_141
 refine T.skip (T.seq (T.sg ?_))
 refine TL.rx 4 [(23, (.agg [cI a.f3.f0, cI a.f3.f1, cI a.f3.f2, cS a.f3.f3, cS a.f3.f4, cI a.f3.f5.f0, cI a.f3.f5.f1, cS a.f3.f5.f2, cS a.f3.f5.f3, .d (.bss a.f3.f5.f4)])), (25, (.agg (c_68 b)))] [] ?_
 refine TL.c (Step.cz (ok_laws_eqHead a.f3 b.f3)) ?_
 refine TL.rl [(27, (pB (!(decide (a.f3 = b.f3)))))] [] ?_
 refine T.cni rfl (fun h4 => ?_) (fun h4 => ?_)
 ·refine T.sr [(4, (pB false))] [] ?_
  refine T.ret ?_
  exact p_141
 refine T.skip (T.seq (T.sg ?_))
 refine TL.rx 4 [(29, (.agg [cI a.f4.f0.f0, cI a.f4.f0.f1, cI a.f4.f0.f2, cS a.f4.f0.f3, cS a.f4.f0.f4, cI a.f4.f0.f5.f0, cI a.f4.f0.f5.f1, cS a.f4.f0.f5.f2, cS a.f4.f0.f5.f3, .d (.bss a.f4.f0.f5.f4), .d (.bss a.f4.f1)])), (31, (.agg (c_60 b)))] [] ?_
 refine TL.c (Step.cz (ok_laws_eqBlock a.f4 b.f4)) ?_
 refine TL.rl [(33, (pB (!(decide (a.f4 = b.f4)))))] [] ?_
 refine T.wk [(2, (.one (.ptr 2 0))), (3, (.one (.ptr 3 0))), (4, (pB false)), (33, (pB (!(decide (a.f4 = b.f4)))))] [] [(2, (43, [cI a.f0, cI a.f1.f0, cI a.f1.f1, cS a.f1.f2, cI a.f1.f3, cS a.f1.f4, cI a.f2.f0, cI a.f2.f1, cS a.f2.f2, cS a.f2.f3, .d (.bss a.f2.f4), cI a.f3.f0, cI a.f3.f1, cI a.f3.f2, cS a.f3.f3, cS a.f3.f4, cI a.f3.f5.f0, cI a.f3.f5.f1, cS a.f3.f5.f2, cS a.f3.f5.f3, .d (.bss a.f3.f5.f4), cI a.f4.f0.f0, cI a.f4.f0.f1, cI a.f4.f0.f2, cS a.f4.f0.f3, cS a.f4.f0.f4, cI a.f4.f0.f5.f0, cI a.f4.f0.f5.f1, cS a.f4.f0.f5.f2, cS a.f4.f0.f5.f3, .d (.bss a.f4.f0.f5.f4), .d (.bss a.f4.f1), cI a.f5.f0, .d (.sl 3 (a.f5.f1.map SEntry.cells)), .d (.sl 10 (a.f6.f0.map SHead.cells)), cI a.f6.f1.f0, cI a.f6.f1.f1, cS a.f6.f1.f2, cS a.f6.f1.f3, .d (.bss a.f6.f1.f4), cI a.f7.f0, cI a.f7.f1, cI a.f7.f2, cS a.f7.f3, .d (.bss a.f7.f4)])), (3, (43, [cI b.f0, cI b.f1.f0, cI b.f1.f1, cS b.f1.f2, cI b.f1.f3, cS b.f1.f4, cI b.f2.f0, cI b.f2.f1, cS b.f2.f2, cS b.f2.f3, .d (.bss b.f2.f4), cI b.f3.f0, cI b.f3.f1, cI b.f3.f2, cS b.f3.f3, cS b.f3.f4, cI b.f3.f5.f0, cI b.f3.f5.f1, cS b.f3.f5.f2, cS b.f3.f5.f3, .d (.bss b.f3.f5.f4), cI b.f4.f0.f0, cI b.f4.f0.f1, cI b.f4.f0.f2, cS b.f4.f0.f3, cS b.f4.f0.f4, cI b.f4.f0.f5.f0, cI b.f4.f0.f5.f1, cS b.f4.f0.f5.f2, cS b.f4.f0.f5.f3, .d (.bss b.f4.f0.f5.f4), .d (.bss b.f4.f1), cI b.f5.f0, .d (.sl 3 (b.f5.f1.map SEntry.cells)), .d (.sl 10 (b.f6.f0.map SHead.cells)), cI b.f6.f1.f0, cI b.f6.f1.f1, cS b.f6.f1.f2, cS b.f6.f1.f3, .d (.bss b.f6.f1.f4), cI b.f7.f0, cI b.f7.f1, cI b.f7.f2, cS b.f7.f3, .d (.bss b.f7.f4)]))] ?_
 refine T.cni rfl (fun h5 => ?_) (fun h5 => ?_)
 ·refine T.sr [(4, (pB false))] [] ?_
  refine T.ret ?_
  exact p_141
 refine T.skip (T.seq (T.sg ?_))
 refine TL.rx 4 [(35, (.agg [cI a.f5.f0, .d (.sl 3 (a.f5.f1.map SEntry.cells))])), (37, (.agg [cI b.f5.f0, .d (.sl 3 (b.f5.f1.map SEntry.cells))]))] [] ?_
 refine TL.c (Step.cz (ok_laws_eqTc a.f5 b.f5)) ?_
 refine TL.rl [(39, (pB (!(decide (a.f5 = b.f5)))))] [] ?_
 refine T.cni rfl (fun h6 => ?_) (fun h6 => ?_)
 ·refine T.sr [(4, (pB false))] [] ?_
  refine T.ret ?_
  exact p_141
 refine T.skip (T.seq (T.sg ?_))
 refine TL.rx 4 [(41, (.agg [.d (.sl 10 (a.f6.f0.map SHead.cells)), cI a.f6.f1.f0, cI a.f6.f1.f1, cS a.f6.f1.f2, cS a.f6.f1.f3, .d (.bss a.f6.f1.f4)])), (43, (.agg [.d (.sl 10 (b.f6.f0.map SHead.cells)), cI b.f6.f1.f0, cI b.f6.f1.f1, cS b.f6.f1.f2, cS b.f6.f1.f3, .d (.bss b.f6.f1.f4)]))] [] ?_
 refine TL.c (Step.cz (ok_laws_eqProof a.f6 b.f6)) ?_
 refine TL.rl [(45, (pB (!(decide (a.f6 = b.f6)))))] [] ?_
 refine T.cni rfl (fun h7 => ?_) (fun h7 => ?_)
 ·refine T.sr [(4, (pB false))] [] ?_
  refine T.ret ?_
  exact p_141
 refine T.skip (T.seq (T.sg ?_))
 refine TL.rx 4 [(47, (.agg [cI a.f7.f0, cI a.f7.f1, cI a.f7.f2, cS a.f7.f3, .d (.bss a.f7.f4)])), (49, (.agg [cI b.f7.f0, cI b.f7.f1, cI b.f7.f2, cS b.f7.f3, .d (.bss b.f7.f4)]))] [] ?_
 refine TL.c (Step.cz (ok_laws_eqIncl a.f7 b.f7)) ?_
 refine TL.rl [(51, (pB (!(decide (a.f7 = b.f7)))))] [] ?_
 refine T.cni rfl (fun h8 => ?_) (fun h8 => ?_)
 ·refine T.sr [(4, (pB false))] [] ?_
  refine T.ret ?_
  exact p_141
 refine T.skip ?_
 refine T.sr [(4, (pB true))] [] ?_
 refine T.ret ?_
 exact p_141
theorem ok_laws_markByteS (a : List Int) (k : Int) (h0_ : 0 ≤ k) (h1_ : k + (a.length : Int) ≤ 4611686018427387904) : MK Tryz.prog 11 [.one (.mk (.ints .u8 a) (.ints .u8 (mkB a k))), .one (.rd (.int .i64 k))] [(false, [.rd (.int .i64 (k + (a.length : Int)))])] := by
 refine MK.intro Tryz.func11 rfl 20 rfl (le_ok rfl) (le_ok rfl) rfl fun w Z IX pin Ts hp => ?_
 refine T.bndRow 900 rfl fun hb_900 => ?_
 simp only [D.size, List.length_map] at hb_900
 refine T.sr [(4, (pI 0))] [] ?_
 refine T.seq ?_
 refine T.sr [(5, (pI 0))] [] ?_
 refine T.block ?_
 refine T.loop (ι := Nat) (fun xx_ => { tm := [(0, (.one (.row 900 []))), (4, (pI 0)), (5, (pI (xx_ : Int))), (1, (pI (k + (xx_ : Int))))], rows := [(900, ((Ts 0), (.ints .u8 (upTo (fun _ => 1) (fun _ k => k % 256) a k xx_))))], boxes := [] }) (fun xx_ => xx_ ≤ a.length) (fun xx_ => a.length - xx_) 0 ?_ ?_ ?_
 · refine Env.le_mk ⟨rfl, rfl, ?_, ?_, trivial⟩ ⟨?_, trivial⟩ trivial <;> exact p_82
 · exact Nat.zero_le _
 intro i hx
 try dsimp only at hx ⊢
 refine T.seq (T.sg ?_)
 refine TL.rx 2 [(6, (pI (i : Int))), (7, (.one (.row 900 [])))] [] ?_
 refine TL.c (Step.len' (e := 5) (z := 1) (d := (.ints .u8 (upTo (fun _ => 1) (fun _ k => k % 256) a k i))) (n := a.length) rfl rfl (lt_ok rfl) p_6 rfl rfl (by simp [D.size, upTo_length])) ?_
 refine TL.rl [(9, (pB (decide ((i : Int) < (a.length : Int)))))] [] ?_
 refine T.ci rfl (fun h1 => ?_) (fun h1 => ?_)
 ·refine T.skip (T.seq (T.block (T.sg ?_)))
  refine TL.rx 3 [(12, (.one (.row 900 []))), (13, (pI (i : Int))), (14, (pI (k + (i : Int))))] [] ?_
  refine TL.c (Step.conv (c := ((k + (i : Int)) % 256)) rfl rfl (lt_ok rfl) p_6 p_6 rfl (wrap_byte _)) ?_
  refine TL.c (Step.index_row (d := (.ints .u8 (upTo (fun _ => 1) (fun _ k => k % 256) a k i))) (e := 5) (z := 1) (i := (i : Int)) rfl rfl (lt_ok rfl) p_6 rfl rfl rfl rfl (lt_ok rfl) rfl p_17 p_49) ?_
  refine TL.c (Step.store_row (n := 1) (p := (.one (.d (.int .u8 ((k + (i : Int)) % 256))))) (ps := [.d (.int .u8 ((k + (i : Int)) % 256))]) (es := [(.int .u8 ((k + (i : Int)) % 256))]) (ss := []) (d1 := (.ints .u8 ((upTo (fun _ => 1) (fun _ k => k % 256) a k i).set i ((k + (i : Int)) % 256)))) (d' := (.ints .u8 ((upTo (fun _ => 1) (fun _ k => k % 256) a k i).set i ((k + (i : Int)) % 256)))) rfl rfl p_6 rfl rfl rfl rfl rfl rfl (.val rfl .nil) p_104 (Putd.one rfl trivial rfl (by simp only [D.at_, D.size, List.length_set, upTo_length]; first | omega | (simp; omega)) (lt_ok rfl)) rfl) ?_
  refine TL.nil (T.region ?_)
  refine TL.rx 1 [(17, (pI (k + (i : Int))))] [] ?_
  refine TL.ad ((k + (i : Int)) + 1) ?_
  refine TL.rl [(1, (pI ((k + (i : Int)) + 1)))] [] ?_
  refine T.region ?_
  refine TL.rx 1 [(10, (pI (i : Int)))] [] ?_
  refine TL.ad ((i : Int) + 1) ?_
  refine TL.rl [(5, (pI ((i : Int) + 1)))] [] ?_
  refine ⟨i + 1, by omega, by first | omega | (dsimp only; omega), Env.le_mk ⟨rfl, rfl, ?_, ?_, trivial⟩ ⟨?_, trivial⟩ trivial⟩ <;> exact p_82
 refine T.exit ?_
 refine T.sr [(4, (pI (k + (i : Int))))] [] ?_
 refine T.ret ?_
 refine ⟨⟨⟨_, (.cons rfl .nil), rfl, _, (.r ?_ .nil)⟩, rfl⟩, (.mk' (by exact congrArg (fun x => some (Ts 0, D.ints .u8 x)) (upTo_all (by omega))) (.rd .nil'))⟩ <;> ((congr 1; omega))
theorem ok_laws_markVote (a : SVote) (k : Int) (h0_ : 0 ≤ k) (h1_ : k + a.cm ≤ 4611686018427387904) : MK Tryz.prog 42 [.agg [.rd (.int .i64 a.f0), .rd (.int .i64 a.f1), .mk (.ints .u8 a.f2) (.ints .u8 (mkB a.f2 k)), .rd (.int .i64 a.f3), .mk (.ints .u8 a.f4) (.ints .u8 (mkB a.f4 (k + (a.f2.length : Int))))], .one (.rd (.int .i64 k))] [(false, [.rd (.int .i64 (k + a.cm))])] := by
 refine MK.intro Tryz.func42 rfl 14 rfl (le_ok rfl) (le_ok rfl) rfl fun w Z IX pin Ts hp => ?_
 simp only [SVote.cm] at h1_
 refine T.sr [(2, (.one (.ptr 2 0))), (4, (pI 0))] [(2, (26, [cI a.f0, cI a.f1, .row 902 [], cI a.f3, .row 904 []]))] ?_
 refine T.sg ?_
 refine TL.rx 3 [(6, (.one (.row 902 []))), (7, (pI k))] [] ?_
 refine TL.c (Step.callM2 (xs := [.tmp 6, .tmp 7]) (ps := [(.one (.row 902 [])), (pI k)]) (js := [(902, (.ints .u8 (mkB a.f2 k)))]) (g := .func 11) (ok_laws_markByteS a.f2 k p_4 p_57) rfl rfl (lt_ok rfl) rfl p_6 rfl rfl (.row (T := (Ts 2)) (d := (.ints .u8 a.f2)) (e' := (.ints .u8 (mkB a.f2 k))) (d' := (.ints .u8 (mkB a.f2 k))) rfl rfl rfl rfl rfl p_45 rfl rfl (.d .nil)) rfl) ?_
 refine TL.rl [(1, (pI (k + (a.f2.length : Int))))] [] ?_
 refine T.sg ?_
 refine TL.rx 3 [(10, (.one (.row 904 []))), (11, (pI (k + (a.f2.length : Int))))] [] ?_
 refine TL.c (Step.callM2 (xs := [.tmp 10, .tmp 11]) (ps := [(.one (.row 904 [])), (pI (k + (a.f2.length : Int)))]) (js := [(904, (.ints .u8 (mkB a.f4 (k + (a.f2.length : Int)))))]) (g := .func 11) (ok_laws_markByteS a.f4 (k + (a.f2.length : Int)) p_4 p_57) rfl rfl (lt_ok rfl) rfl p_6 rfl rfl (.row (T := (Ts 4)) (d := (.ints .u8 a.f4)) (e' := (.ints .u8 (mkB a.f4 (k + (a.f2.length : Int))))) (d' := (.ints .u8 (mkB a.f4 (k + (a.f2.length : Int))))) rfl rfl rfl rfl rfl p_45 rfl rfl (.d .nil)) rfl) ?_
 refine TL.rl [(1, (pI ((k + (a.f2.length : Int)) + (a.f4.length : Int))))] [] ?_
 refine T.sr [(4, (pI ((k + (a.f2.length : Int)) + (a.f4.length : Int))))] [] ?_
 refine T.ret ?_
 refine ⟨⟨⟨_, (.cons rfl .nil), rfl, _, (.r ?_ .nil)⟩, rfl⟩, (.rd (.rd (.mk' p_122 (.rd (.mk' p_122 (.rd .nil'))))))⟩ <;> (first | rfl | (congr 1; simp only [SVote.cm]; omega))
theorem ok_laws_markByteSS (a : List (List Int)) (k : Int) (h0_ : 0 ≤ k) (h1_ : k + cntL (fun x : List Int => (x.length : Int)) a ≤ 4611686018427387904) : MK Tryz.prog 89 [.one (.mk (.bss a) (.bss (mkBs a k))), .one (.rd (.int .i64 k))] [(false, [.rd (.int .i64 (k + cntL (fun x : List Int => (x.length : Int)) a))])] := by
 refine MK.intro Tryz.func89 rfl 19 rfl (le_ok rfl) (le_ok rfl) rfl fun w Z IX pin Ts hp => ?_
 refine T.bndRow 900 rfl fun hb_900 => ?_
 simp only [D.size, List.length_map] at hb_900
 refine T.sr [(4, (pI 0))] [] ?_
 refine T.seq ?_
 refine T.sr [(5, (pI 0))] [] ?_
 refine T.block ?_
 refine T.loop (ι := Nat) (fun xx_ => { tm := [(0, (.one (.row 900 []))), (4, (pI 0)), (5, (pI (xx_ : Int))), (1, (pI (k + cntL (fun x : List Int => (x.length : Int)) (a.take xx_))))], rows := [(900, ((Ts 0), (.bss ((upTo (fun x : List Int => (x.length : Int)) mkB a k xx_).set xx_ (a.getD xx_ [])))))], boxes := [] }) (fun xx_ => xx_ ≤ a.length) (fun xx_ => a.length - xx_) 0 ?_ ?_ ?_
 · refine Env.le_mk ⟨rfl, rfl, ?_, ?_, trivial⟩ ⟨?_, trivial⟩ trivial <;> exact p_91
 · exact Nat.zero_le _
 intro i hx
 try dsimp only at hx ⊢
 refine T.seq (T.sg ?_)
 refine TL.rx 2 [(6, (pI (i : Int))), (7, (.one (.row 900 [])))] [] ?_
 refine TL.c (Step.len' (e := 24) (z := 1) (d := (.bss ((upTo (fun x : List Int => (x.length : Int)) mkB a k i).set i (a.getD i [])))) (n := a.length) rfl rfl (lt_ok rfl) p_6 rfl rfl (by simp [D.size, upTo_length])) ?_
 refine TL.rl [(9, (pB (decide ((i : Int) < (a.length : Int)))))] [] ?_
 refine T.ci rfl (fun h1 => ?_) (fun h1 => ?_)
 ·have hc1 := cntL_take_le (cnt := (fun x : List Int => (x.length : Int))) (fun x => by omega) a (i + 1)
  have hc2 := cntL_take_succ (cnt := (fun x : List Int => (x.length : Int))) (i := i) [] (show i < a.length by omega)
  have hc3 := cntL_nonneg (cnt := (fun x : List Int => (x.length : Int))) (fun x => by omega) (a.take i)
  try dsimp only at hc2
  refine T.skip (T.seq (T.block (T.region ?_)))
  refine TL.rx 2 [(12, (.one (.row 900 []))), (13, (pI (i : Int)))] [] ?_
  refine TL.c (Step.index_row (d := (.bss ((upTo (fun x : List Int => (x.length : Int)) mkB a k i).set i (a.getD i [])))) (e := 24) (z := 1) (i := (i : Int)) rfl rfl (lt_ok rfl) p_6 rfl rfl rfl rfl (lt_ok rfl) rfl p_17 p_49) ?_
  refine TL.c (Step.load_row (d := (.bss ((upTo (fun x : List Int => (x.length : Int)) mkB a k i).set i (a.getD i [])))) (c := .row 900 [(i, 0)]) rfl rfl (lt_ok rfl) p_6 rfl rfl (ofRow_sl (cell_set_bss p_52) rfl)) ?_
  refine TL.rx 1 [(16, (pI (k + cntL (fun x : List Int => (x.length : Int)) (a.take i))))] [] ?_
  refine TL.c (Step.callM2 (xs := [.tmp 15, .tmp 16]) (ps := [(.one (.row 900 [(i, 0)])), (pI (k + cntL (fun x : List Int => (x.length : Int)) (a.take i)))]) (js := [(900, (.bss ((upTo (fun x : List Int => (x.length : Int)) mkB a k i).set i (mkB (a.getD i []) (k + cntL (fun x : List Int => (x.length : Int)) (a.take i))))))]) (g := .func 11) (ok_laws_markByteS (a.getD i []) (k + cntL (fun x : List Int => (x.length : Int)) (a.take i)) p_4 p_57) rfl rfl (lt_ok rfl) rfl p_6 rfl rfl (.row (T := (Ts 0)) (d := (.bss ((upTo (fun x : List Int => (x.length : Int)) mkB a k i).set i (a.getD i [])))) (e' := (.ints .u8 (mkB (a.getD i []) (k + cntL (fun x : List Int => (x.length : Int)) (a.take i))))) (d' := (.bss ((upTo (fun x : List Int => (x.length : Int)) mkB a k i).set i (mkB (a.getD i []) (k + cntL (fun x : List Int => (x.length : Int)) (a.take i)))))) rfl (cell_set_bss p_52) rfl putAt_bss2 rfl p_120 rfl rfl (.d .nil)) rfl) ?_
  refine TL.rl [(1, (pI ((k + cntL (fun x : List Int => (x.length : Int)) (a.take i)) + ((a.getD i []).length : Int))))] [] ?_
  refine T.region ?_
  refine TL.rx 1 [(10, (pI (i : Int)))] [] ?_
  refine TL.ad ((i : Int) + 1) ?_
  refine TL.rl [(5, (pI ((i : Int) + 1)))] [] ?_
  refine ⟨i + 1, by omega, by first | omega | (dsimp only; omega), Env.le_mk ⟨rfl, rfl, ?_, ?_, trivial⟩ ⟨?_, trivial⟩ trivial⟩ <;> exact p_91
 refine T.exit ?_
 refine T.sr [(4, (pI (k + cntL (fun x : List Int => (x.length : Int)) (a.take i))))] [] ?_
 refine T.ret ?_
 refine ⟨⟨⟨_, (.cons rfl .nil), rfl, _, (.r ?_ .nil)⟩, rfl⟩, (.mk' (by exact congrArg (fun x => some (Ts 0, D.bss x)) (upTo_end (by omega))) (.rd .nil'))⟩ <;> ((congr 1; rw [cntL_all p_4]))
theorem ok_laws_markQc (a : SQc) (k : Int) (h0_ : 0 ≤ k) (h1_ : k + a.cm ≤ 4611686018427387904) : MK Tryz.prog 43 [.agg [.rd (.int .i64 a.f0), .rd (.int .i64 a.f1), .mk (.ints .u8 a.f2) (.ints .u8 (mkB a.f2 k)), .mk (.ints .u8 a.f3) (.ints .u8 (mkB a.f3 (k + (a.f2.length : Int)))), .mk (.bss a.f4) (.bss (mkBs a.f4 ((k + (a.f2.length : Int)) + (a.f3.length : Int))))], .one (.rd (.int .i64 k))] [(false, [.rd (.int .i64 (k + a.cm))])] := by
 refine MK.intro Tryz.func43 rfl 18 rfl (le_ok rfl) (le_ok rfl) rfl fun w Z IX pin Ts hp => ?_
 have n4 := cntBs_nonneg a.f4
 simp only [SQc.cm] at h1_
 refine T.sr [(2, (.one (.ptr 2 0))), (4, (pI 0))] [(2, (29, [cI a.f0, cI a.f1, .row 902 [], .row 903 [], .row 904 []]))] ?_
 refine T.sg ?_
 refine TL.rx 3 [(6, (.one (.row 902 []))), (7, (pI k))] [] ?_
 refine TL.c (Step.callM2 (xs := [.tmp 6, .tmp 7]) (ps := [(.one (.row 902 [])), (pI k)]) (js := [(902, (.ints .u8 (mkB a.f2 k)))]) (g := .func 11) (ok_laws_markByteS a.f2 k p_4 p_57) rfl rfl (lt_ok rfl) rfl p_6 rfl rfl (.row (T := (Ts 2)) (d := (.ints .u8 a.f2)) (e' := (.ints .u8 (mkB a.f2 k))) (d' := (.ints .u8 (mkB a.f2 k))) rfl rfl rfl rfl rfl p_45 rfl rfl (.d .nil)) rfl) ?_
 refine TL.rl [(1, (pI (k + (a.f2.length : Int))))] [] ?_
 refine T.sg ?_
 refine TL.rx 3 [(10, (.one (.row 903 []))), (11, (pI (k + (a.f2.length : Int))))] [] ?_
 refine TL.c (Step.callM2 (xs := [.tmp 10, .tmp 11]) (ps := [(.one (.row 903 [])), (pI (k + (a.f2.length : Int)))]) (js := [(903, (.ints .u8 (mkB a.f3 (k + (a.f2.length : Int)))))]) (g := .func 11) (ok_laws_markByteS a.f3 (k + (a.f2.length : Int)) p_4 p_57) rfl rfl (lt_ok rfl) rfl p_6 rfl rfl (.row (T := (Ts 3)) (d := (.ints .u8 a.f3)) (e' := (.ints .u8 (mkB a.f3 (k + (a.f2.length : Int))))) (d' := (.ints .u8 (mkB a.f3 (k + (a.f2.length : Int))))) rfl rfl rfl rfl rfl p_45 rfl rfl (.d .nil)) rfl) ?_
 refine TL.rl [(1, (pI ((k + (a.f2.length : Int)) + (a.f3.length : Int))))] [] ?_
 refine T.sg ?_
 refine TL.rx 3 [(14, (.one (.row 904 []))), (15, (pI ((k + (a.f2.length : Int)) + (a.f3.length : Int))))] [] ?_
 have nn1 := cntBs_nonneg a.f4
 refine TL.c (Step.callM2 (xs := [.tmp 14, .tmp 15]) (ps := [(.one (.row 904 [])), (pI ((k + (a.f2.length : Int)) + (a.f3.length : Int)))]) (js := [(904, (.bss (mkBs a.f4 ((k + (a.f2.length : Int)) + (a.f3.length : Int)))))]) (g := .func 89) (ok_laws_markByteSS a.f4 ((k + (a.f2.length : Int)) + (a.f3.length : Int)) p_4 p_115) rfl rfl (lt_ok rfl) rfl p_6 rfl rfl (.row (T := (Ts 4)) (d := (.bss a.f4)) (e' := (.bss (mkBs a.f4 ((k + (a.f2.length : Int)) + (a.f3.length : Int))))) (d' := (.bss (mkBs a.f4 ((k + (a.f2.length : Int)) + (a.f3.length : Int))))) rfl rfl rfl rfl rfl p_45 rfl rfl (.d .nil)) rfl) ?_
 refine TL.rl [(1, (pI (((k + (a.f2.length : Int)) + (a.f3.length : Int)) + cntL (fun x : List Int => (x.length : Int)) a.f4)))] [] ?_
 refine T.sr [(4, (pI (((k + (a.f2.length : Int)) + (a.f3.length : Int)) + cntL (fun x : List Int => (x.length : Int)) a.f4)))] [] ?_
 refine T.ret ?_
 refine ⟨⟨⟨_, (.cons rfl .nil), rfl, _, (.r ?_ .nil)⟩, rfl⟩, (.rd (.rd (.mk' p_122 (.mk' p_122 (.mk' p_122 (.rd .nil'))))))⟩ <;> (first | rfl | (congr 1; simp only [SQc.cm]; omega))
theorem ok_laws_markHead (a : SHead) (k : Int) (h0_ : 0 ≤ k) (h1_ : k + a.cm ≤ 4611686018427387904) : MK Tryz.prog 44 [.agg [.rd (.int .i64 a.f0), .rd (.int .i64 a.f1), .rd (.int .i64 a.f2), .mk (.ints .u8 a.f3) (.ints .u8 (mkB a.f3 k)), .mk (.ints .u8 a.f4) (.ints .u8 (mkB a.f4 (k + (a.f3.length : Int)))), .rd (.int .i64 a.f5.f0), .rd (.int .i64 a.f5.f1), .mk (.ints .u8 a.f5.f2) (.ints .u8 (mkB a.f5.f2 ((k + (a.f3.length : Int)) + (a.f4.length : Int)))), .mk (.ints .u8 a.f5.f3) (.ints .u8 (mkB a.f5.f3 (((k + (a.f3.length : Int)) + (a.f4.length : Int)) + (a.f5.f2.length : Int)))), .mk (.bss a.f5.f4) (.bss (mkBs a.f5.f4 ((((k + (a.f3.length : Int)) + (a.f4.length : Int)) + (a.f5.f2.length : Int)) + (a.f5.f3.length : Int))))], .one (.rd (.int .i64 k))] [(false, [.rd (.int .i64 (k + a.cm))])] := by
 refine MK.intro Tryz.func44 rfl 18 rfl (le_ok rfl) (le_ok rfl) rfl fun w Z IX pin Ts hp => ?_
 have n5 := SQc.cm_nn a.f5
 simp only [SHead.cm] at h1_
 refine T.sr [(2, (.one (.ptr 2 0))), (4, (pI 0))] [(2, (31, [cI a.f0, cI a.f1, cI a.f2, .row 903 [], .row 904 [], cI a.f5.f0, cI a.f5.f1, .row 907 [], .row 908 [], .row 909 []]))] ?_
 refine T.sg ?_
 refine TL.rx 3 [(6, (.one (.row 903 []))), (7, (pI k))] [] ?_
 refine TL.c (Step.callM2 (xs := [.tmp 6, .tmp 7]) (ps := [(.one (.row 903 [])), (pI k)]) (js := [(903, (.ints .u8 (mkB a.f3 k)))]) (g := .func 11) (ok_laws_markByteS a.f3 k p_4 p_57) rfl rfl (lt_ok rfl) rfl p_6 rfl rfl (.row (T := (Ts 3)) (d := (.ints .u8 a.f3)) (e' := (.ints .u8 (mkB a.f3 k))) (d' := (.ints .u8 (mkB a.f3 k))) rfl rfl rfl rfl rfl p_45 rfl rfl (.d .nil)) rfl) ?_
 refine TL.rl [(1, (pI (k + (a.f3.length : Int))))] [] ?_
 refine T.sg ?_
 refine TL.rx 3 [(10, (.one (.row 904 []))), (11, (pI (k + (a.f3.length : Int))))] [] ?_
 refine TL.c (Step.callM2 (xs := [.tmp 10, .tmp 11]) (ps := [(.one (.row 904 [])), (pI (k + (a.f3.length : Int)))]) (js := [(904, (.ints .u8 (mkB a.f4 (k + (a.f3.length : Int)))))]) (g := .func 11) (ok_laws_markByteS a.f4 (k + (a.f3.length : Int)) p_4 p_57) rfl rfl (lt_ok rfl) rfl p_6 rfl rfl (.row (T := (Ts 4)) (d := (.ints .u8 a.f4)) (e' := (.ints .u8 (mkB a.f4 (k + (a.f3.length : Int))))) (d' := (.ints .u8 (mkB a.f4 (k + (a.f3.length : Int))))) rfl rfl rfl rfl rfl p_45 rfl rfl (.d .nil)) rfl) ?_
 refine TL.rl [(1, (pI ((k + (a.f3.length : Int)) + (a.f4.length : Int))))] [] ?_
 refine T.sg ?_
 refine TL.rx 3 [(14, (.agg [cI a.f5.f0, cI a.f5.f1, .row 907 [], .row 908 [], .row 909 []])), (15, (pI ((k + (a.f3.length : Int)) + (a.f4.length : Int))))] [] ?_
 have nn1 := SQc.cm_nn a.f5
 refine TL.c (Step.callM2 (xs := [.tmp 14, .tmp 15]) (ps := [(.agg [cI a.f5.f0, cI a.f5.f1, .row 907 [], .row 908 [], .row 909 []]), (pI ((k + (a.f3.length : Int)) + (a.f4.length : Int)))]) (js := [(907, (.ints .u8 (mkB a.f5.f2 ((k + (a.f3.length : Int)) + (a.f4.length : Int))))), (908, (.ints .u8 (mkB a.f5.f3 (((k + (a.f3.length : Int)) + (a.f4.length : Int)) + (a.f5.f2.length : Int))))), (909, (.bss (mkBs a.f5.f4 ((((k + (a.f3.length : Int)) + (a.f4.length : Int)) + (a.f5.f2.length : Int)) + (a.f5.f3.length : Int)))))]) (g := .func 43) (ok_laws_markQc a.f5 ((k + (a.f3.length : Int)) + (a.f4.length : Int)) p_4 (by first | omega | (have := SQc.cm_le (x := a.f5) (by assumption); omega))) rfl rfl (lt_ok rfl) rfl p_6 rfl rfl (.d (.d (.row (T := (Ts 7)) (d := (.ints .u8 a.f5.f2)) (e' := (.ints .u8 (mkB a.f5.f2 ((k + (a.f3.length : Int)) + (a.f4.length : Int))))) (d' := (.ints .u8 (mkB a.f5.f2 ((k + (a.f3.length : Int)) + (a.f4.length : Int))))) rfl rfl rfl rfl rfl p_45 rfl rfl (.row (T := (Ts 8)) (d := (.ints .u8 a.f5.f3)) (e' := (.ints .u8 (mkB a.f5.f3 (((k + (a.f3.length : Int)) + (a.f4.length : Int)) + (a.f5.f2.length : Int))))) (d' := (.ints .u8 (mkB a.f5.f3 (((k + (a.f3.length : Int)) + (a.f4.length : Int)) + (a.f5.f2.length : Int))))) rfl rfl rfl rfl rfl p_45 rfl rfl (.row (T := (Ts 9)) (d := (.bss a.f5.f4)) (e' := (.bss (mkBs a.f5.f4 ((((k + (a.f3.length : Int)) + (a.f4.length : Int)) + (a.f5.f2.length : Int)) + (a.f5.f3.length : Int))))) (d' := (.bss (mkBs a.f5.f4 ((((k + (a.f3.length : Int)) + (a.f4.length : Int)) + (a.f5.f2.length : Int)) + (a.f5.f3.length : Int))))) rfl rfl rfl rfl rfl p_45 rfl rfl (.d .nil)))))) rfl) ?_
 refine TL.rl [(1, (pI (((k + (a.f3.length : Int)) + (a.f4.length : Int)) + a.f5.cm)))] [] ?_
 refine T.sr [(4, (pI (((k + (a.f3.length : Int)) + (a.f4.length : Int)) + a.f5.cm)))] [] ?_
 refine T.ret ?_
 refine ⟨⟨⟨_, (.cons rfl .nil), rfl, _, (.r ?_ .nil)⟩, rfl⟩, (.rd (.rd (.rd (.mk' p_122 (.mk' p_122 (.rd (.rd (.mk' p_122 (.mk' p_122 (.mk' p_122 (.rd .nil')))))))))))⟩ <;> (first | rfl | (congr 1; simp only [SHead.cm]; omega))
theorem ok_laws_markBlock (a : SBlock) (k : Int) (h0_ : 0 ≤ k) (h1_ : k + a.cm ≤ 4611686018427387904) : MK Tryz.prog 45 [.agg [.rd (.int .i64 a.f0.f0), .rd (.int .i64 a.f0.f1), .rd (.int .i64 a.f0.f2), .mk (.ints .u8 a.f0.f3) (.ints .u8 (mkB a.f0.f3 k)), .mk (.ints .u8 a.f0.f4) (.ints .u8 (mkB a.f0.f4 (k + (a.f0.f3.length : Int)))), .rd (.int .i64 a.f0.f5.f0), .rd (.int .i64 a.f0.f5.f1), .mk (.ints .u8 a.f0.f5.f2) (.ints .u8 (mkB a.f0.f5.f2 ((k + (a.f0.f3.length : Int)) + (a.f0.f4.length : Int)))), .mk (.ints .u8 a.f0.f5.f3) (.ints .u8 (mkB a.f0.f5.f3 (((k + (a.f0.f3.length : Int)) + (a.f0.f4.length : Int)) + (a.f0.f5.f2.length : Int)))), .mk (.bss a.f0.f5.f4) (.bss (mkBs a.f0.f5.f4 ((((k + (a.f0.f3.length : Int)) + (a.f0.f4.length : Int)) + (a.f0.f5.f2.length : Int)) + (a.f0.f5.f3.length : Int)))), .mk (.bss a.f1) (.bss (mkBs a.f1 (k + a.f0.cm)))], .one (.rd (.int .i64 k))] [(false, [.rd (.int .i64 (k + a.cm))])] := by
 refine MK.intro Tryz.func45 rfl 14 rfl (le_ok rfl) (le_ok rfl) rfl fun w Z IX pin Ts hp => ?_
 have n0 := SHead.cm_nn a.f0
 have n1 := cntBs_nonneg a.f1
 simp only [SBlock.cm] at h1_
 refine T.sr [(2, (.one (.ptr 2 0))), (4, (pI 0))] [(2, (33, [cI a.f0.f0, cI a.f0.f1, cI a.f0.f2, .row 903 [], .row 904 [], cI a.f0.f5.f0, cI a.f0.f5.f1, .row 907 [], .row 908 [], .row 909 [], .row 910 []]))] ?_
 refine T.sg ?_
 refine TL.rx 3 [(6, (.agg (c_73 a))), (7, (pI k))] [] ?_
 have nn1 := SHead.cm_nn a.f0
 refine TL.c (Step.callM2 (xs := [.tmp 6, .tmp 7]) (ps := [(.agg (c_73 a)), (pI k)]) (js := [(903, (.ints .u8 (mkB a.f0.f3 k))), (904, (.ints .u8 (mkB a.f0.f4 (k + (a.f0.f3.length : Int))))), (907, (.ints .u8 (mkB a.f0.f5.f2 ((k + (a.f0.f3.length : Int)) + (a.f0.f4.length : Int))))), (908, (.ints .u8 (mkB a.f0.f5.f3 (((k + (a.f0.f3.length : Int)) + (a.f0.f4.length : Int)) + (a.f0.f5.f2.length : Int))))), (909, (.bss (mkBs a.f0.f5.f4 ((((k + (a.f0.f3.length : Int)) + (a.f0.f4.length : Int)) + (a.f0.f5.f2.length : Int)) + (a.f0.f5.f3.length : Int)))))]) (g := .func 44) (ok_laws_markHead a.f0 k p_4 (by first | omega | (have := SHead.cm_le (x := a.f0) (by assumption); omega))) rfl rfl (lt_ok rfl) rfl p_6 rfl rfl (.d (.d (.d (.row (T := (Ts 3)) (d := (.ints .u8 a.f0.f3)) (e' := (.ints .u8 (mkB a.f0.f3 k))) (d' := (.ints .u8 (mkB a.f0.f3 k))) rfl rfl rfl rfl rfl p_45 rfl rfl (.row (T := (Ts 4)) (d := (.ints .u8 a.f0.f4)) (e' := (.ints .u8 (mkB a.f0.f4 (k + (a.f0.f3.length : Int))))) (d' := (.ints .u8 (mkB a.f0.f4 (k + (a.f0.f3.length : Int))))) rfl rfl rfl rfl rfl p_45 rfl rfl (.d (.d (.row (T := (Ts 7)) (d := (.ints .u8 a.f0.f5.f2)) (e' := (.ints .u8 (mkB a.f0.f5.f2 ((k + (a.f0.f3.length : Int)) + (a.f0.f4.length : Int))))) (d' := (.ints .u8 (mkB a.f0.f5.f2 ((k + (a.f0.f3.length : Int)) + (a.f0.f4.length : Int))))) rfl rfl rfl rfl rfl p_45 rfl rfl (.row (T := (Ts 8)) (d := (.ints .u8 a.f0.f5.f3)) (e' := (.ints .u8 (mkB a.f0.f5.f3 (((k + (a.f0.f3.length : Int)) + (a.f0.f4.length : Int)) + (a.f0.f5.f2.length : Int))))) (d' := (.ints .u8 (mkB a.f0.f5.f3 (((k + (a.f0.f3.length : Int)) + (a.f0.f4.length : Int)) + (a.f0.f5.f2.length : Int))))) rfl rfl rfl rfl rfl p_45 rfl rfl (.row (T := (Ts 9)) (d := (.bss a.f0.f5.f4)) (e' := (.bss (mkBs a.f0.f5.f4 ((((k + (a.f0.f3.length : Int)) + (a.f0.f4.length : Int)) + (a.f0.f5.f2.length : Int)) + (a.f0.f5.f3.length : Int))))) (d' := (.bss (mkBs a.f0.f5.f4 ((((k + (a.f0.f3.length : Int)) + (a.f0.f4.length : Int)) + (a.f0.f5.f2.length : Int)) + (a.f0.f5.f3.length : Int))))) rfl rfl rfl rfl rfl p_45 rfl rfl (.d .nil))))))))))) rfl) ?_
 refine TL.rl [(1, (pI (k + a.f0.cm)))] [] ?_
 refine T.sg ?_
 refine TL.rx 3 [(10, (.one (.row 910 []))), (11, (pI (k + a.f0.cm)))] [] ?_
 have nn2 := cntBs_nonneg a.f1
 refine TL.c (Step.callM2 (xs := [.tmp 10, .tmp 11]) (ps := [(.one (.row 910 [])), (pI (k + a.f0.cm))]) (js := [(910, (.bss (mkBs a.f1 (k + a.f0.cm))))]) (g := .func 89) (ok_laws_markByteSS a.f1 (k + a.f0.cm) p_4 (by first | omega | (have := cntBs_le (xs := a.f1) (by assumption); omega))) rfl rfl (lt_ok rfl) rfl p_6 rfl rfl (.row (T := (Ts 10)) (d := (.bss a.f1)) (e' := (.bss (mkBs a.f1 (k + a.f0.cm)))) (d' := (.bss (mkBs a.f1 (k + a.f0.cm)))) rfl rfl rfl rfl rfl p_45 rfl rfl (.d .nil)) rfl) ?_
 refine TL.rl [(1, (pI ((k + a.f0.cm) + cntL (fun x : List Int => (x.length : Int)) a.f1)))] [] ?_
 refine T.sr [(4, (pI ((k + a.f0.cm) + cntL (fun x : List Int => (x.length : Int)) a.f1)))] [] ?_
 refine T.ret ?_
 refine ⟨⟨⟨_, (.cons rfl .nil), rfl, _, (.r ?_ .nil)⟩, rfl⟩, (.rd (.rd (.rd (.mk' p_122 (.mk' p_122 (.rd (.rd (.mk' p_122 (.mk' p_122 (.mk' p_122 (.mk' p_122 (.rd .nil'))))))))))))⟩ <;> (first | rfl | (congr 1; simp only [SBlock.cm]; omega))
theorem ok_laws_markEntryS (a : List SEntry) (k : Int) (h0_ : 0 ≤ k) (h1_ : k + cntL SEntry.ce a ≤ 4611686018427387904) : MK Tryz.prog 90 [.one (.mk (.sl 3 (a.map SEntry.cells)) (.sl 3 ((mkL SEntry.ce SEntry.me a k).map SEntry.cells))), .one (.rd (.int .i64 k))] [(false, [.rd (.int .i64 (k + cntL SEntry.ce a))])] := by
 refine MK.intro Tryz.func90 rfl 34 rfl (le_ok rfl) (le_ok rfl) rfl fun w Z IX pin Ts hp => ?_
 refine T.bndRow 900 rfl fun hb_900 => ?_
 simp only [D.size, List.length_map] at hb_900
 refine T.sr [(4, (pI 0))] [] ?_
 refine T.seq ?_
 refine T.sr [(5, (pI 0))] [] ?_
 refine T.block ?_
 refine T.loop (ι := Nat) (fun xx_ => { tm := [(0, (.one (.row 900 []))), (4, (pI 0)), (5, (pI (xx_ : Int))), (1, (pI (k + cntL SEntry.ce (a.take xx_))))], rows := [(900, ((Ts 0), (.sl 3 (((upTo SEntry.ce SEntry.me a k xx_).set xx_ (a.getD xx_ default)).map SEntry.cells))))], boxes := [] }) (fun xx_ => xx_ ≤ a.length) (fun xx_ => a.length - xx_) 0 ?_ ?_ ?_
 · refine Env.le_mk ⟨rfl, rfl, ?_, ?_, trivial⟩ ⟨?_, trivial⟩ trivial <;> exact p_77
 · exact Nat.zero_le _
 intro i hx
 try dsimp only at hx ⊢
 refine T.seq (T.sg ?_)
 refine TL.rx 2 [(6, (pI (i : Int))), (7, (.one (.row 900 [])))] [] ?_
 refine TL.c (Step.len' (e := 111) (z := 3) (d := (.sl 3 (((upTo SEntry.ce SEntry.me a k i).set i (a.getD i default)).map SEntry.cells))) (n := a.length) rfl rfl (lt_ok rfl) p_6 rfl rfl (by simp [D.size, upTo_length])) ?_
 refine TL.rl [(9, (pB (decide ((i : Int) < (a.length : Int)))))] [] ?_
 refine T.ci rfl (fun h1 => ?_) (fun h1 => ?_)
 ·have hc1 := cntL_take_le (cnt := SEntry.ce) SEntry.ce_nn a (i + 1)
  have hc2 := cntL_take_succ (cnt := SEntry.ce) (i := i) default (show i < a.length by omega)
  have hc3 := cntL_nonneg (cnt := SEntry.ce) SEntry.ce_nn (a.take i)
  have hc4 : SEntry.ce (a.getD i default) = 1 + 1 + ((a.getD i default).f2.length : Int) := rfl
  refine T.skip (T.seq (T.block (T.sg ?_)))
  refine TL.rx 3 [(12, (.one (.row 900 []))), (13, (pI (i : Int))), (14, (pI (k + cntL SEntry.ce (a.take i))))] [] ?_
  refine TL.c (Step.index_row (d := (.sl 3 (((upTo SEntry.ce SEntry.me a k i).set i (a.getD i default)).map SEntry.cells))) (e := 111) (z := 3) (i := (i : Int)) rfl rfl (lt_ok rfl) p_6 rfl rfl rfl rfl (lt_ok rfl) rfl p_17 p_49) ?_
  refine TL.c (Step.fieldAddr_r (d := (.sl 3 (((upTo SEntry.ce SEntry.me a k i).set i (a.getD i default)).map SEntry.cells))) (j := 0) (off := 0) (n := 1) (one := true) rfl rfl (lt_ok rfl) p_6 (Nat.succ_ne_zero _) rfl rfl (lt_ok rfl)) ?_
  refine TL.c (Step.store_row (n := 1) (p := (pI (k + cntL SEntry.ce (a.take i)))) (ps := [cI (k + cntL SEntry.ce (a.take i))]) (es := [(.int .i64 (k + cntL SEntry.ce (a.take i)))]) (ss := []) (d1 := (.sl 3 (((upTo SEntry.ce SEntry.me a k i).set i (⟨k + cntL SEntry.ce (a.take i), (a.getD i default).f1, (a.getD i default).f2⟩ : SEntry)).map SEntry.cells))) (d' := (.sl 3 (((upTo SEntry.ce SEntry.me a k i).set i (⟨k + cntL SEntry.ce (a.take i), (a.getD i default).f1, (a.getD i default).f2⟩ : SEntry)).map SEntry.cells))) rfl rfl p_6 rfl rfl rfl rfl rfl rfl (.val rfl .nil) p_104 (Putd.fld2 SEntry.len p_52 (lt_ok rfl) rfl) rfl) ?_
  refine TL.nil (T.sg ?_)
  refine TL.rx 1 [(17, (pI (k + cntL SEntry.ce (a.take i))))] [] ?_
  refine TL.ad ((k + cntL SEntry.ce (a.take i)) + 1) ?_
  refine TL.rl [(1, (pI ((k + cntL SEntry.ce (a.take i)) + 1)))] [] ?_
  refine T.sg ?_
  refine TL.rx 3 [(19, (.one (.row 900 []))), (20, (pI (i : Int))), (21, (pI ((k + cntL SEntry.ce (a.take i)) + 1)))] [] ?_
  refine TL.c (Step.index_row (d := (.sl 3 (((upTo SEntry.ce SEntry.me a k i).set i (⟨k + cntL SEntry.ce (a.take i), (a.getD i default).f1, (a.getD i default).f2⟩ : SEntry)).map SEntry.cells))) (e := 111) (z := 3) (i := (i : Int)) rfl rfl (lt_ok rfl) p_6 rfl rfl rfl rfl (lt_ok rfl) rfl p_17 p_49) ?_
  refine TL.c (Step.fieldAddr_r (d := (.sl 3 (((upTo SEntry.ce SEntry.me a k i).set i (⟨k + cntL SEntry.ce (a.take i), (a.getD i default).f1, (a.getD i default).f2⟩ : SEntry)).map SEntry.cells))) (j := 0) (off := 1) (n := 1) (one := true) rfl rfl (lt_ok rfl) p_6 (Nat.succ_ne_zero _) rfl rfl (lt_ok rfl)) ?_
  refine TL.c (Step.store_row (n := 1) (p := (pI ((k + cntL SEntry.ce (a.take i)) + 1))) (ps := [cI ((k + cntL SEntry.ce (a.take i)) + 1)]) (es := [(.int .i64 ((k + cntL SEntry.ce (a.take i)) + 1))]) (ss := []) (d1 := (.sl 3 (((upTo SEntry.ce SEntry.me a k i).set i (⟨k + cntL SEntry.ce (a.take i), (k + cntL SEntry.ce (a.take i)) + 1, (a.getD i default).f2⟩ : SEntry)).map SEntry.cells))) (d' := (.sl 3 (((upTo SEntry.ce SEntry.me a k i).set i (⟨k + cntL SEntry.ce (a.take i), (k + cntL SEntry.ce (a.take i)) + 1, (a.getD i default).f2⟩ : SEntry)).map SEntry.cells))) rfl rfl p_6 rfl rfl rfl rfl rfl rfl (.val rfl .nil) p_104 (Putd.fld2 SEntry.len p_52 (lt_ok rfl) rfl) rfl) ?_
  refine TL.nil (T.sg ?_)
  refine TL.rx 1 [(24, (pI ((k + cntL SEntry.ce (a.take i)) + 1)))] [] ?_
  refine TL.ad (((k + cntL SEntry.ce (a.take i)) + 1) + 1) ?_
  refine TL.rl [(1, (pI (((k + cntL SEntry.ce (a.take i)) + 1) + 1)))] [] ?_
  refine T.region ?_
  refine TL.rx 2 [(26, (.one (.row 900 []))), (27, (pI (i : Int)))] [] ?_
  refine TL.c (Step.index_row (d := (.sl 3 (((upTo SEntry.ce SEntry.me a k i).set i (⟨k + cntL SEntry.ce (a.take i), (k + cntL SEntry.ce (a.take i)) + 1, (a.getD i default).f2⟩ : SEntry)).map SEntry.cells))) (e := 111) (z := 3) (i := (i : Int)) rfl rfl (lt_ok rfl) p_6 rfl rfl rfl rfl (lt_ok rfl) rfl p_17 p_49) ?_
  refine TL.c (Step.fieldAddr_r (d := (.sl 3 (((upTo SEntry.ce SEntry.me a k i).set i (⟨k + cntL SEntry.ce (a.take i), (k + cntL SEntry.ce (a.take i)) + 1, (a.getD i default).f2⟩ : SEntry)).map SEntry.cells))) (j := 0) (off := 2) (n := 1) (one := true) rfl rfl (lt_ok rfl) p_6 (Nat.succ_ne_zero _) rfl rfl (lt_ok rfl)) ?_
  refine TL.c (Step.load_row (d := (.sl 3 (((upTo SEntry.ce SEntry.me a k i).set i (⟨k + cntL SEntry.ce (a.take i), (k + cntL SEntry.ce (a.take i)) + 1, (a.getD i default).f2⟩ : SEntry)).map SEntry.cells))) (c := .row 900 [(i, 2)]) rfl rfl (lt_ok rfl) p_6 rfl rfl (ofRow_sl (cell_set_sl (z := 3) p_52 rfl) rfl)) ?_
  refine TL.rx 1 [(31, (pI (((k + cntL SEntry.ce (a.take i)) + 1) + 1)))] [] ?_
  refine TL.c (Step.callM2 (xs := [.tmp 30, .tmp 31]) (ps := [(.one (.row 900 [(i, 2)])), (pI (((k + cntL SEntry.ce (a.take i)) + 1) + 1))]) (js := [(900, (.sl 3 (((upTo SEntry.ce SEntry.me a k i).set i (⟨k + cntL SEntry.ce (a.take i), (k + cntL SEntry.ce (a.take i)) + 1, mkB (a.getD i default).f2 (((k + cntL SEntry.ce (a.take i)) + 1) + 1)⟩ : SEntry)).map SEntry.cells)))]) (g := .func 11) (ok_laws_markByteS (a.getD i default).f2 (((k + cntL SEntry.ce (a.take i)) + 1) + 1) p_4 p_57) rfl rfl (lt_ok rfl) rfl p_6 rfl rfl (.row (T := (Ts 0)) (d := (.sl 3 (((upTo SEntry.ce SEntry.me a k i).set i (⟨k + cntL SEntry.ce (a.take i), (k + cntL SEntry.ce (a.take i)) + 1, (a.getD i default).f2⟩ : SEntry)).map SEntry.cells))) (e' := (.ints .u8 (mkB (a.getD i default).f2 (((k + cntL SEntry.ce (a.take i)) + 1) + 1)))) (d' := (.sl 3 (((upTo SEntry.ce SEntry.me a k i).set i (⟨k + cntL SEntry.ce (a.take i), (k + cntL SEntry.ce (a.take i)) + 1, mkB (a.getD i default).f2 (((k + cntL SEntry.ce (a.take i)) + 1) + 1)⟩ : SEntry)).map SEntry.cells))) rfl (cell_set_sl (z := 3) p_52 rfl) rfl (putAt_fld2 p_52 rfl) rfl p_120 rfl rfl (.d .nil)) rfl) ?_
  refine TL.rl [(1, (pI ((((k + cntL SEntry.ce (a.take i)) + 1) + 1) + ((a.getD i default).f2.length : Int))))] [] ?_
  refine T.region ?_
  refine TL.rx 1 [(10, (pI (i : Int)))] [] ?_
  refine TL.ad ((i : Int) + 1) ?_
  refine TL.rl [(5, (pI ((i : Int) + 1)))] [] ?_
  refine ⟨i + 1, by omega, by first | omega | (dsimp only; omega), Env.le_mk ⟨rfl, rfl, ?_, ?_, trivial⟩ ⟨?_, trivial⟩ trivial⟩ <;> exact p_77
 refine T.exit ?_
 refine T.sr [(4, (pI (k + cntL SEntry.ce (a.take i))))] [] ?_
 refine T.ret ?_
 refine ⟨⟨⟨_, (.cons rfl .nil), rfl, _, (.r ?_ .nil)⟩, rfl⟩, (.mk' (by exact congrArg (fun x => some (Ts 0, D.sl 3 (List.map SEntry.cells x))) (upTo_end (by omega))) (.rd .nil'))⟩ <;> ((congr 1; rw [cntL_all p_4]))
theorem ok_laws_markTc (a : STc) (k : Int) (h0_ : 0 ≤ k) (h1_ : k + a.cm ≤ 4611686018427387904) : MK Tryz.prog 46 [.agg [.rd (.int .i64 a.f0), .mk (.sl 3 (a.f1.map SEntry.cells)) (.sl 3 ((mkL SEntry.ce SEntry.me a.f1 k).map SEntry.cells))], .one (.rd (.int .i64 k))] [(false, [.rd (.int .i64 (k + a.cm))])] := by
 refine MK.intro Tryz.func46 rfl 10 rfl (le_ok rfl) (le_ok rfl) rfl fun w Z IX pin Ts hp => ?_
 have n1 := cntL_nonneg SEntry.ce_nn a.f1
 simp only [STc.cm] at h1_
 refine T.sr [(2, (.one (.ptr 2 0))), (4, (pI 0))] [(2, (36, [cI a.f0, .row 901 []]))] ?_
 refine T.sg ?_
 refine TL.rx 3 [(6, (.one (.row 901 []))), (7, (pI k))] [] ?_
 have nn1 := cntL_nonneg SEntry.ce_nn a.f1
 refine TL.c (Step.callM2 (xs := [.tmp 6, .tmp 7]) (ps := [(.one (.row 901 [])), (pI k)]) (js := [(901, (.sl 3 ((mkL SEntry.ce SEntry.me a.f1 k).map SEntry.cells)))]) (g := .func 90) (ok_laws_markEntryS a.f1 k p_4 (by first | omega | (have := SEntry.cL_le (xs := a.f1) (by assumption); omega))) rfl rfl (lt_ok rfl) rfl p_6 rfl rfl (.row (T := (Ts 1)) (d := (.sl 3 (a.f1.map SEntry.cells))) (e' := (.sl 3 ((mkL SEntry.ce SEntry.me a.f1 k).map SEntry.cells))) (d' := (.sl 3 ((mkL SEntry.ce SEntry.me a.f1 k).map SEntry.cells))) rfl rfl rfl rfl rfl p_45 rfl rfl (.d .nil)) rfl) ?_
 refine TL.rl [(1, (pI (k + cntL SEntry.ce a.f1)))] [] ?_
 refine T.sr [(4, (pI (k + cntL SEntry.ce a.f1)))] [] ?_
 refine T.ret ?_
 refine ⟨⟨⟨_, (.cons rfl .nil), rfl, _, (.r ?_ .nil)⟩, rfl⟩, (.rd (.mk' p_122 (.rd .nil')))⟩ <;> (first | rfl | (congr 1; simp only [STc.cm]; omega))
end Go.Proofs.YtjohlfccejljlaaGreat.Rf
