/- The functions that FnExactDecode calls, each held to what it answers. Printed by a program of this session; Lean checks it. -/
import Derived.Test.YtjohlfccejljlaaGreatProg
import Derived.Test.YtjohlfccejljlaaGreatRFnExactDecodex0
namespace Go.Proofs.YtjohlfccejljlaaGreat.Rf
open Go.RowKit
set_option linter.unusedVariables false
set_option linter.unnecessarySimpa false
set_option linter.unusedSimpArgs false
set_option maxRecDepth 100000
set_option maxHeartbeats 40000000
theorem ok_spec_ShaBlock (h : List Int) (b : List Int) (h0_ : U8s b) : RO Tryz.prog 132 [.one (.ints .i64 h), .one (.ints .u8 b)] [(false, [.own 3 (.ints .i64 (shaBlock h b))])] := by
 refine RO.intro Tryz.func132 rfl 254 rfl (le_ok rfl) fun w Z => ?_
 refine T.bnd 0 0 rfl rfl fun hb_0_0 => ?_
 simp only [D.size, List.length_map] at hb_0_0
 refine T.bnd 1 0 rfl rfl fun hb_1_0 => ?_
 simp only [D.size, List.length_map] at hb_1_0
 refine T.sr [(4, (.one (.nil)))] [] ?_
 refine T.seq (T.sg ?_)
 refine TL.rx 1 [(23, (.one (.d (.ints .i64 h))))] [] ?_
 refine TL.c (Step.ln 3 1 (.ints .i64 h)) ?_
 refine TL.rx 2 [(26, (pB (decide ((h.length : Int) ≠ 8))))] [] ?_
 rcases Bool.eq_false_or_eq_true (decide ((h.length : Int) ≠ 8)) with hb1 | hb1
 ·refine TL.known 26 hb1 rfl ?_
  have hb1' := hb1
  replace hb1' := of_decide_eq_true hb1'
  refine TL.rl [(30, (pB true))] [] ?_
  refine T.ct ?_
  refine T.sr [(4, (.one (.nil)))] [] ?_
  refine T.ret ?_
  exact p_148
 refine TL.known 26 hb1 rfl ?_
 have hb1' := hb1
 replace hb1' := of_decide_eq_false hb1'
 refine TL.rx 1 [(27, (pS b))] [] ?_
 refine TL.gy 26 (Step.ln 5 1 (.ints .u8 b)) ?_
 refine TL.rl [(30, (pB (decide ((b.length : Int) ≠ 64))))] [] ?_
 refine T.ci rfl (fun h2 => ?_) (fun h2 => ?_)
 ·refine T.sr [(4, (.one (.nil)))] [] ?_
  refine T.ret ?_
  exact p_148
 refine T.skip (T.seq (T.sg ?_))
 refine TL.rx 1 [(31, (.one (.d (.ints .i64 h))))] [] ?_
 refine TL.c (Step.ln 3 1 (.ints .i64 h)) ?_
 refine TL.rl [(33, (pI 0))] [] ?_
 refine T.block ?_
 refine T.loop (ι := Nat) (fun xx_ => { tm := [(0, (.one (.d (.ints .i64 h)))), (1, (pS b)), (31, (.one (.d (.ints .i64 h)))), (32, (pI (h.length : Int))), (33, (pI (xx_ : Int)))], rows := [], boxes := [] }) (fun xx_ => xx_ ≤ h.length ∧ wordsOk (h.take xx_) = true) (fun xx_ => h.length - xx_) 0 ?_ ?_ ?_
 · refine Env.le_mk ⟨rfl, rfl, rfl, rfl, ?_, trivial⟩ trivial trivial <;> exact p_86
 · (refine ⟨Nat.zero_le _, by rw [List.take_zero]; rfl⟩)
 intro i hx
 try dsimp only at hx ⊢
 obtain ⟨hx1, hx2⟩ := hx
 refine T.sr [(34, (pB (decide ((i : Int) < (h.length : Int)))))] [] ?_
 refine T.seq ?_
 refine T.ci rfl (fun h3 => ?_) (fun h3 => ?_)
 ·refine T.skip (T.seq (T.block (T.sg ?_)))
  refine TL.c (Step.index (e := 3) (z := 1) (i := (i : Int)) rfl rfl (lt_ok rfl) p_6 rfl rfl rfl (lt_ok rfl) rfl p_5 p_35) ?_
  refine TL.c (Step.load (e := (.int .i64 (h.getD i 0))) rfl rfl (lt_ok rfl) p_6 rfl rfl) ?_
  refine TL.rl [(6, (pI (h.getD i 0)))] [] ?_
  refine T.sg ?_
  refine TL.rx 1 [(37, (pI (h.getD i 0)))] [] ?_
  refine TL.c (Step.cz (ok_spec_l04Word (h.getD i 0))) ?_
  refine TL.rl [(39, (pB (!(decide (0 ≤ (h.getD i 0) ∧ (h.getD i 0) ≤ 4294967295)))))] [] ?_
  refine T.cni rfl (fun h4 => ?_) (fun h4 => ?_)
  ·refine T.sr [(4, (.one (.nil)))] [] ?_
   refine T.ret ?_
   exact p_148
  refine T.skip (T.region ?_)
  refine TL.c (Step.bin (r := .int .i64 ((i : Int) + 1)) rfl rfl (lt_ok rfl) rfl rfl (Bin.add (a := (i : Int)) (b := 1) p_10)) ?_
  refine TL.rl [(33, (pI ((i : Int) + 1)))] [] ?_
  refine ⟨i + 1, by (refine ⟨by omega, words_step p_4 hx2 p_4⟩), by first | omega | (dsimp only; omega), Env.le_mk ⟨rfl, rfl, rfl, rfl, ?_, trivial⟩ trivial trivial⟩ <;> exact p_86
 refine T.exit (T.sg ?_)
 refine TL.c (Step.lt 3 1 8 [] [] (.ints .i64 [])) ?_
 refine TL.rl [(7, (.one (.row 41 [])))] [] ?_
 refine T.seq ?_
 refine T.sr [(8, (pI 0))] [] ?_
 refine T.block ?_
 refine T.loop (ι := Nat) (fun xx_ => { tm := [(0, (.one (.d (.ints .i64 h)))), (1, (pS b)), (8, (pI (4 * (xx_ : Int)))), (7, (.one (.row 41 [])))], rows := [(41, (3, (.ints .i64 (w16 b xx_))))], boxes := [] }) (fun xx_ => xx_ ≤ 16) (fun xx_ => 16 - xx_) 0 ?_ ?_ ?_
 · refine Env.le_mk ⟨rfl, rfl, ?_, rfl, trivial⟩ ⟨?_, trivial⟩ trivial <;> exact p_108
 · exact Nat.zero_le _
 intro i hx
 try dsimp only at hx ⊢
 have hwo_ : wordsOk h = true := by rw [List.take_of_length_le p_4] at hx2; exact hx2
 have hl_ := w16_len b i
 have hu0_ := getD_u8 h0_ (4 * (i : Int)).toNat
 have hu1_ := getD_u8 h0_ (4 * (i : Int) + 1).toNat
 have hu2_ := getD_u8 h0_ (4 * (i : Int) + 2).toNat
 have hu3_ := getD_u8 h0_ (4 * (i : Int) + 3).toNat
 refine T.seq ?_
 refine T.sr [(43, (pB (decide ((4 * (i : Int)) < 64))))] [] ?_
 refine T.ci rfl (fun h5 => ?_) (fun h5 => ?_)
 ·refine T.skip (T.seq (T.block ?_))
  obtain ⟨y6, hy6_⟩ : ∃ y_, y_ = bshl (b.getD (4 * (i : Int)).toNat 0) 24 := ⟨_, rfl⟩
  obtain ⟨y7, hy7_⟩ : ∃ y_, y_ = bshl (b.getD ((4 * (i : Int)) + 1).toNat 0) 16 := ⟨_, rfl⟩
  obtain ⟨y8, hy8_⟩ : ∃ y_, y_ = bshl (b.getD ((4 * (i : Int)) + 2).toNat 0) 8 := ⟨_, rfl⟩
  obtain ⟨y9, hy9_⟩ : ∃ y_, y_ = bor (bor (bor y6 y7) y8) (b.getD ((4 * (i : Int)) + 3).toNat 0) := ⟨_, rfl⟩
  refine T.draw [⟨46, (.one (.row 41 [])), []⟩, ⟨47, (pS b), []⟩, ⟨48, (pI (4 * (i : Int))), []⟩, ⟨49, (.one (.eptr (.ints .u8 b) (4 * (i : Int)).toNat 0)), []⟩, ⟨50, (.one (.d (.int .u8 (b.getD (4 * (i : Int)).toNat 0)))), []⟩, ⟨51, (pI (b.getD (4 * (i : Int)).toNat 0)), []⟩, ⟨52, (pI y6), []⟩, ⟨53, (pS b), []⟩, ⟨54, (pI (4 * (i : Int))), []⟩, ⟨55, (pI ((4 * (i : Int)) + 1)), []⟩, ⟨56, (.one (.eptr (.ints .u8 b) ((4 * (i : Int)) + 1).toNat 0)), []⟩, ⟨57, (.one (.d (.int .u8 (b.getD ((4 * (i : Int)) + 1).toNat 0)))), []⟩, ⟨58, (pI (b.getD ((4 * (i : Int)) + 1).toNat 0)), []⟩, ⟨59, (pI y7), []⟩, ⟨60, (pI (bor y6 y7)), []⟩, ⟨61, (pS b), []⟩, ⟨62, (pI (4 * (i : Int))), []⟩, ⟨63, (pI ((4 * (i : Int)) + 2)), []⟩, ⟨64, (.one (.eptr (.ints .u8 b) ((4 * (i : Int)) + 2).toNat 0)), []⟩, ⟨65, (.one (.d (.int .u8 (b.getD ((4 * (i : Int)) + 2).toNat 0)))), []⟩, ⟨66, (pI (b.getD ((4 * (i : Int)) + 2).toNat 0)), []⟩, ⟨67, (pI y8), []⟩, ⟨68, (pI (bor (bor y6 y7) y8)), []⟩, ⟨69, (pS b), []⟩, ⟨70, (pI (4 * (i : Int))), []⟩, ⟨71, (pI ((4 * (i : Int)) + 3)), []⟩, ⟨72, (.one (.eptr (.ints .u8 b) ((4 * (i : Int)) + 3).toNat 0)), []⟩, ⟨73, (.one (.d (.int .u8 (b.getD ((4 * (i : Int)) + 3).toNat 0)))), []⟩, ⟨74, (pI (b.getD ((4 * (i : Int)) + 3).toNat 0)), []⟩, ⟨75, (pI y9), []⟩, ⟨76, (.one (.d (.ints .i64 [y9]))), []⟩] p_6 p_6 ?_ ?_
  ·refine .cons (fun E A => A.mv 7 46) ?_
   refine .cons (fun E A => A.mv 1 47) ?_
   refine .cons (fun E A => A.mv 8 48) ?_
   refine .cons (fun E A => OpStep.plain rfl (Step.index (e := 5) (z := 1) (i := (4 * (i : Int))) (t := 49) rfl rfl p_21 p_6 (A.g 47 rfl) rfl rfl (lt_ok rfl) (A.g 48 rfl) p_5 p_35)) ?_
   refine .cons (fun E A => OpStep.plain rfl (Step.load (e := (.int .u8 (b.getD (4 * (i : Int)).toNat 0))) (t := 50) rfl rfl p_21 p_6 (A.g 49 rfl) rfl)) ?_
   refine .cons (fun E A => OpStep.plain rfl (Step.conv (c := (b.getD (4 * (i : Int)).toNat 0)) (t := 51) rfl rfl p_21 p_6 p_6 (A.g 50 rfl) (wrap_ok p_5 p_5))) ?_
   refine .cons (fun E A => OpStep.plain rfl (Step.bd (r := .int .i64 y6) 52 (A.g 51 rfl) rfl (Bin.shl (k := .i64) (k' := .u64) (a := (b.getD (4 * (i : Int)).toNat 0)) (b := 24) p_5 (hy6_.symm)))) ?_
   refine .cons (fun E A => A.mv 1 53) ?_
   refine .cons (fun E A => A.mv 8 54) ?_
   refine .cons (fun E A => OpStep.plain rfl (Step.bd (r := .int .i64 ((4 * (i : Int)) + 1)) 55 (A.g 54 rfl) rfl (Bin.add (a := (4 * (i : Int))) (b := 1) p_10))) ?_
   refine .cons (fun E A => OpStep.plain rfl (Step.index (e := 5) (z := 1) (i := ((4 * (i : Int)) + 1)) (t := 56) rfl rfl p_21 p_6 (A.g 53 rfl) rfl rfl (lt_ok rfl) (A.g 55 rfl) p_5 p_35)) ?_
   refine .cons (fun E A => OpStep.plain rfl (Step.load (e := (.int .u8 (b.getD ((4 * (i : Int)) + 1).toNat 0))) (t := 57) rfl rfl p_21 p_6 (A.g 56 rfl) rfl)) ?_
   refine .cons (fun E A => OpStep.plain rfl (Step.conv (c := (b.getD ((4 * (i : Int)) + 1).toNat 0)) (t := 58) rfl rfl p_21 p_6 p_6 (A.g 57 rfl) (wrap_ok p_5 p_5))) ?_
   refine .cons (fun E A => OpStep.plain rfl (Step.bd (r := .int .i64 y7) 59 (A.g 58 rfl) rfl (Bin.shl (k := .i64) (k' := .u64) (a := (b.getD ((4 * (i : Int)) + 1).toNat 0)) (b := 16) p_5 (hy7_.symm)))) ?_
   refine .cons (fun E A => OpStep.plain rfl (Step.bd (r := .int .i64 (bor y6 y7)) 60 (A.g 52 rfl) (A.g 59 rfl) (Bin.or (k := .i64) (a := y6) (b := y7) (rfl)))) ?_
   refine .cons (fun E A => A.mv 1 61) ?_
   refine .cons (fun E A => A.mv 8 62) ?_
   refine .cons (fun E A => OpStep.plain rfl (Step.bd (r := .int .i64 ((4 * (i : Int)) + 2)) 63 (A.g 62 rfl) rfl (Bin.add (a := (4 * (i : Int))) (b := 2) p_10))) ?_
   refine .cons (fun E A => OpStep.plain rfl (Step.index (e := 5) (z := 1) (i := ((4 * (i : Int)) + 2)) (t := 64) rfl rfl p_21 p_6 (A.g 61 rfl) rfl rfl (lt_ok rfl) (A.g 63 rfl) p_5 p_35)) ?_
   refine .cons (fun E A => OpStep.plain rfl (Step.load (e := (.int .u8 (b.getD ((4 * (i : Int)) + 2).toNat 0))) (t := 65) rfl rfl p_21 p_6 (A.g 64 rfl) rfl)) ?_
   refine .cons (fun E A => OpStep.plain rfl (Step.conv (c := (b.getD ((4 * (i : Int)) + 2).toNat 0)) (t := 66) rfl rfl p_21 p_6 p_6 (A.g 65 rfl) (wrap_ok p_5 p_5))) ?_
   refine .cons (fun E A => OpStep.plain rfl (Step.bd (r := .int .i64 y8) 67 (A.g 66 rfl) rfl (Bin.shl (k := .i64) (k' := .u64) (a := (b.getD ((4 * (i : Int)) + 2).toNat 0)) (b := 8) p_5 (hy8_.symm)))) ?_
   refine .cons (fun E A => OpStep.plain rfl (Step.bd (r := .int .i64 (bor (bor y6 y7) y8)) 68 (A.g 60 rfl) (A.g 67 rfl) (Bin.or (k := .i64) (a := (bor y6 y7)) (b := y8) (rfl)))) ?_
   refine .cons (fun E A => A.mv 1 69) ?_
   refine .cons (fun E A => A.mv 8 70) ?_
   refine .cons (fun E A => OpStep.plain rfl (Step.bd (r := .int .i64 ((4 * (i : Int)) + 3)) 71 (A.g 70 rfl) rfl (Bin.add (a := (4 * (i : Int))) (b := 3) p_10))) ?_
   refine .cons (fun E A => OpStep.plain rfl (Step.index (e := 5) (z := 1) (i := ((4 * (i : Int)) + 3)) (t := 72) rfl rfl p_21 p_6 (A.g 69 rfl) rfl rfl (lt_ok rfl) (A.g 71 rfl) p_5 p_35)) ?_
   refine .cons (fun E A => OpStep.plain rfl (Step.load (e := (.int .u8 (b.getD ((4 * (i : Int)) + 3).toNat 0))) (t := 73) rfl rfl p_21 p_6 (A.g 72 rfl) rfl)) ?_
   refine .cons (fun E A => OpStep.plain rfl (Step.conv (c := (b.getD ((4 * (i : Int)) + 3).toNat 0)) (t := 74) rfl rfl p_21 p_6 p_6 (A.g 73 rfl) (wrap_ok p_5 p_5))) ?_
   refine .cons (fun E A => OpStep.plain rfl (Step.bd (r := .int .i64 y9) 75 (A.g 68 rfl) (A.g 74 rfl) (Bin.or (k := .i64) (a := (bor (bor y6 y7) y8)) (b := (b.getD ((4 * (i : Int)) + 3).toNat 0)) (hy9_.symm)))) ?_
   refine .cons (fun E A => OpStep.plain rfl (Step.lit_d (e := 3) (z := 1) (by_ := 8) (xs := [.tmp 75]) (pss := [[cI y9]]) (ds := [(.int .i64 y9)]) (d := (.ints .i64 [y9])) (t := 76) rfl rfl p_21 p_6 rfl rfl (.cons (by exact (congrArg PV.flat (A.g 75 rfl)).trans rfl) .nil) p_104 (le_ok rfl) (le_ok rfl) rfl rfl trivial rfl rfl)) ?_
   exact .nil _ _
  refine TL.c (Step.ap 3 1 8 (.ints .i64 [y9]) (.ints .i64 ((w16 b i) ++ [y9])) (.froz rfl p_101)) ?_
  refine TL.rl [(7, (.one (.row 41 [])))] [] ?_
  refine T.region ?_
  refine TL.rx 1 [(44, (pI (4 * (i : Int))))] [] ?_
  refine TL.c (Step.bin (r := .int .i64 ((4 * (i : Int)) + 4)) rfl rfl (lt_ok rfl) rfl rfl (Bin.add (a := (4 * (i : Int))) (b := 4) p_10)) ?_
  refine TL.rl [(8, (pI ((4 * (i : Int)) + 4)))] [] ?_
  subst hy9_ hy8_ hy7_ hy6_
  refine ⟨i + 1, by omega, by first | omega | (dsimp only; omega), Env.le_mk ⟨rfl, rfl, ?_, rfl, trivial⟩ ⟨?_, trivial⟩ trivial⟩ <;> exact p_108
 refine T.exit (T.seq ?_)
 refine T.sr [(9, (pI 16))] [] ?_
 refine T.block ?_
 refine T.loop (ι := Nat) (fun xx_ => { tm := [(0, (.one (.d (.ints .i64 h)))), (9, (pI (16 + (xx_ : Int)))), (7, (.one (.row 41 [])))], rows := [(41, (3, (.ints .i64 (wN b xx_))))], boxes := [] }) (fun xx_ => xx_ ≤ 48) (fun xx_ => 48 - xx_) 0 ?_ ?_ ?_
 · refine Env.le_mk ⟨rfl, ?_, rfl, trivial⟩ ⟨?_, trivial⟩ trivial <;> exact p_93
 · exact Nat.zero_le _
 intro i hx
 try dsimp only at hx ⊢
 have hl_ := wN_len b i
 refine T.seq ?_
 refine T.sr [(79, (pB (decide ((16 + (i : Int)) < 64))))] [] ?_
 refine T.ci rfl (fun h10 => ?_) (fun h10 => ?_)
 ·refine T.skip (T.seq (T.block (T.sg ?_)))
  refine TL.rx 2 [(82, (.one (.row 41 []))), (83, (pI (16 + (i : Int))))] [] ?_
  refine TL.c (Step.bin (r := .int .i64 ((16 + (i : Int)) - 15)) rfl rfl (lt_ok rfl) rfl rfl (Bin.sub (a := (16 + (i : Int))) (b := 15) p_10)) ?_
  refine TL.c (Step.index_row (e := 3) (z := 1) (i := ((16 + (i : Int)) - 15)) rfl rfl (lt_ok rfl) p_6 rfl rfl rfl rfl (lt_ok rfl) rfl p_5 p_76) ?_
  refine TL.c (Step.load_row (c := cI ((wN b i).getD ((16 + (i : Int)) - 15).toNat 0)) rfl rfl (lt_ok rfl) p_6 rfl rfl rfl) ?_
  refine TL.rl [(10, (pI ((wN b i).getD ((16 + (i : Int)) - 15).toNat 0)))] [] ?_
  refine T.sg ?_
  refine TL.rx 2 [(87, (.one (.row 41 []))), (88, (pI (16 + (i : Int))))] [] ?_
  refine TL.c (Step.bin (r := .int .i64 ((16 + (i : Int)) - 2)) rfl rfl (lt_ok rfl) rfl rfl (Bin.sub (a := (16 + (i : Int))) (b := 2) p_10)) ?_
  refine TL.c (Step.index_row (e := 3) (z := 1) (i := ((16 + (i : Int)) - 2)) rfl rfl (lt_ok rfl) p_6 rfl rfl rfl rfl (lt_ok rfl) rfl p_5 p_76) ?_
  refine TL.c (Step.load_row (c := cI ((wN b i).getD ((16 + (i : Int)) - 2).toNat 0)) rfl rfl (lt_ok rfl) p_6 rfl rfl rfl) ?_
  refine TL.rl [(11, (pI ((wN b i).getD ((16 + (i : Int)) - 2).toNat 0)))] [] ?_
  refine T.sg ?_
  refine TL.rx 1 [(92, (pI ((wN b i).getD ((16 + (i : Int)) - 15).toNat 0)))] [] ?_
  refine TL.c (Step.cz (ok_spec_l04Turn ((wN b i).getD ((16 + (i : Int)) - 15).toNat 0) 7 p_103)) ?_
  refine TL.rx 1 [(94, (pI ((wN b i).getD ((16 + (i : Int)) - 15).toNat 0)))] [] ?_
  refine TL.c (Step.cz (ok_spec_l04Turn ((wN b i).getD ((16 + (i : Int)) - 15).toNat 0) 18 p_103)) ?_
  obtain ⟨y11, hy11_⟩ : ∃ y_, y_ = bxor (turnW ((wN b i).getD ((16 + (i : Int)) - 15).toNat 0) 7) (turnW ((wN b i).getD ((16 + (i : Int)) - 15).toNat 0) 18) := ⟨_, rfl⟩
  refine TL.c (Step.bin (r := .int .i64 y11) rfl rfl (lt_ok rfl) rfl rfl (Bin.xor (k := .i64) (a := (turnW ((wN b i).getD ((16 + (i : Int)) - 15).toNat 0) 7)) (b := (turnW ((wN b i).getD ((16 + (i : Int)) - 15).toNat 0) 18)) (hy11_.symm))) ?_
  refine TL.rx 1 [(97, (pI ((wN b i).getD ((16 + (i : Int)) - 15).toNat 0)))] [] ?_
  obtain ⟨y12, hy12_⟩ : ∃ y_, y_ = bshr ((wN b i).getD ((16 + (i : Int)) - 15).toNat 0) 3 := ⟨_, rfl⟩
  refine TL.c (Step.bin (r := .int .i64 y12) rfl rfl (lt_ok rfl) rfl rfl (Bin.shr (k := .i64) (k' := .u64) (a := ((wN b i).getD ((16 + (i : Int)) - 15).toNat 0)) (b := 3) p_5 (hy12_.symm))) ?_
  refine TL.c (Step.bin (r := .int .i64 (bxor y11 y12)) rfl rfl (lt_ok rfl) rfl rfl (Bin.xor (k := .i64) (a := y11) (b := y12) (rfl))) ?_
  refine TL.rl [(12, (pI (bxor y11 y12)))] [] ?_
  refine T.sg ?_
  refine TL.rx 1 [(100, (pI ((wN b i).getD ((16 + (i : Int)) - 2).toNat 0)))] [] ?_
  refine TL.c (Step.cz (ok_spec_l04Turn ((wN b i).getD ((16 + (i : Int)) - 2).toNat 0) 17 p_103)) ?_
  refine TL.rx 1 [(102, (pI ((wN b i).getD ((16 + (i : Int)) - 2).toNat 0)))] [] ?_
  refine TL.c (Step.cz (ok_spec_l04Turn ((wN b i).getD ((16 + (i : Int)) - 2).toNat 0) 19 p_103)) ?_
  obtain ⟨y13, hy13_⟩ : ∃ y_, y_ = bxor (turnW ((wN b i).getD ((16 + (i : Int)) - 2).toNat 0) 17) (turnW ((wN b i).getD ((16 + (i : Int)) - 2).toNat 0) 19) := ⟨_, rfl⟩
  refine TL.c (Step.bin (r := .int .i64 y13) rfl rfl (lt_ok rfl) rfl rfl (Bin.xor (k := .i64) (a := (turnW ((wN b i).getD ((16 + (i : Int)) - 2).toNat 0) 17)) (b := (turnW ((wN b i).getD ((16 + (i : Int)) - 2).toNat 0) 19)) (hy13_.symm))) ?_
  refine TL.rx 1 [(105, (pI ((wN b i).getD ((16 + (i : Int)) - 2).toNat 0)))] [] ?_
  obtain ⟨y14, hy14_⟩ : ∃ y_, y_ = bshr ((wN b i).getD ((16 + (i : Int)) - 2).toNat 0) 10 := ⟨_, rfl⟩
  refine TL.c (Step.bin (r := .int .i64 y14) rfl rfl (lt_ok rfl) rfl rfl (Bin.shr (k := .i64) (k' := .u64) (a := ((wN b i).getD ((16 + (i : Int)) - 2).toNat 0)) (b := 10) p_5 (hy14_.symm))) ?_
  refine TL.c (Step.bin (r := .int .i64 (bxor y13 y14)) rfl rfl (lt_ok rfl) rfl rfl (Bin.xor (k := .i64) (a := y13) (b := y14) (rfl))) ?_
  refine TL.rl [(13, (pI (bxor y13 y14)))] [] ?_
  obtain ⟨y15, hy15_⟩ : ∃ y_, y_ = wadd ((wN b i).getD ((16 + (i : Int)) - 16).toNat 0) (bxor y11 y12) := ⟨_, rfl⟩
  obtain ⟨y16, hy16_⟩ : ∃ y_, y_ = wadd y15 ((wN b i).getD ((16 + (i : Int)) - 7).toNat 0) := ⟨_, rfl⟩
  obtain ⟨y17, hy17_⟩ : ∃ y_, y_ = band (wadd y16 (bxor y13 y14)) 4294967295 := ⟨_, rfl⟩
  refine T.draw [⟨108, (.one (.row 41 [])), []⟩, ⟨109, (.one (.row 41 [])), []⟩, ⟨110, (pI (16 + (i : Int))), []⟩, ⟨111, (pI ((16 + (i : Int)) - 16)), []⟩, ⟨112, (.one (.rptr 41 [] ((16 + (i : Int)) - 16).toNat 0)), []⟩, ⟨113, (pI ((wN b i).getD ((16 + (i : Int)) - 16).toNat 0)), []⟩, ⟨114, (pI (bxor y11 y12)), []⟩, ⟨115, (pI y15), []⟩, ⟨116, (.one (.row 41 [])), []⟩, ⟨117, (pI (16 + (i : Int))), []⟩, ⟨118, (pI ((16 + (i : Int)) - 7)), []⟩, ⟨119, (.one (.rptr 41 [] ((16 + (i : Int)) - 7).toNat 0)), []⟩, ⟨120, (pI ((wN b i).getD ((16 + (i : Int)) - 7).toNat 0)), []⟩, ⟨121, (pI y16), []⟩, ⟨122, (pI (bxor y13 y14)), []⟩, ⟨123, (pI (wadd y16 (bxor y13 y14))), []⟩, ⟨124, (pI y17), []⟩, ⟨125, (.one (.d (.ints .i64 [y17]))), []⟩] p_6 p_6 ?_ ?_
  ·refine .cons (fun E A => A.mv 7 108) ?_
   refine .cons (fun E A => A.mv 7 109) ?_
   refine .cons (fun E A => A.mv 9 110) ?_
   refine .cons (fun E A => OpStep.plain rfl (Step.bd (r := .int .i64 ((16 + (i : Int)) - 16)) 111 (A.g 110 rfl) rfl (Bin.sub (a := (16 + (i : Int))) (b := 16) p_10))) ?_
   refine .cons (fun E A => OpStep.plain rfl (Step.index_row (e := 3) (z := 1) (i := ((16 + (i : Int)) - 16)) (t := 112) rfl rfl p_21 p_6 (A.g 109 rfl) p_117 rfl rfl (lt_ok rfl) (A.g 111 rfl) p_5 p_76)) ?_
   refine .cons (fun E A => OpStep.plain rfl (Step.load_row (c := cI ((wN b i).getD ((16 + (i : Int)) - 16).toNat 0)) (t := 113) rfl rfl p_21 p_6 (A.g 112 rfl) p_117 rfl)) ?_
   refine .cons (fun E A => A.mv 12 114) ?_
   refine .cons (fun E A => OpStep.plain rfl (Step.bd (r := .int .i64 y15) 115 (A.g 113 rfl) (A.g 114 rfl) (Bin.add (k := .i64) (a := ((wN b i).getD ((16 + (i : Int)) - 16).toNat 0)) (b := (bxor y11 y12)) (hy15_.symm)))) ?_
   refine .cons (fun E A => A.mv 7 116) ?_
   refine .cons (fun E A => A.mv 9 117) ?_
   refine .cons (fun E A => OpStep.plain rfl (Step.bd (r := .int .i64 ((16 + (i : Int)) - 7)) 118 (A.g 117 rfl) rfl (Bin.sub (a := (16 + (i : Int))) (b := 7) p_10))) ?_
   refine .cons (fun E A => OpStep.plain rfl (Step.index_row (e := 3) (z := 1) (i := ((16 + (i : Int)) - 7)) (t := 119) rfl rfl p_21 p_6 (A.g 116 rfl) p_117 rfl rfl (lt_ok rfl) (A.g 118 rfl) p_5 p_76)) ?_
   refine .cons (fun E A => OpStep.plain rfl (Step.load_row (c := cI ((wN b i).getD ((16 + (i : Int)) - 7).toNat 0)) (t := 120) rfl rfl p_21 p_6 (A.g 119 rfl) p_117 rfl)) ?_
   refine .cons (fun E A => OpStep.plain rfl (Step.bd (r := .int .i64 y16) 121 (A.g 115 rfl) (A.g 120 rfl) (Bin.add (k := .i64) (a := y15) (b := ((wN b i).getD ((16 + (i : Int)) - 7).toNat 0)) (hy16_.symm)))) ?_
   refine .cons (fun E A => A.mv 13 122) ?_
   refine .cons (fun E A => OpStep.plain rfl (Step.bd (r := .int .i64 (wadd y16 (bxor y13 y14))) 123 (A.g 121 rfl) (A.g 122 rfl) (Bin.add (k := .i64) (a := y16) (b := (bxor y13 y14)) (rfl)))) ?_
   refine .cons (fun E A => OpStep.plain rfl (Step.bd (r := .int .i64 y17) 124 (A.g 123 rfl) rfl (Bin.and (k := .i64) (a := (wadd y16 (bxor y13 y14))) (b := 4294967295) (hy17_.symm)))) ?_
   refine .cons (fun E A => OpStep.plain rfl (Step.lit_d (e := 3) (z := 1) (by_ := 8) (xs := [.tmp 124]) (pss := [[cI y17]]) (ds := [(.int .i64 y17)]) (d := (.ints .i64 [y17])) (t := 125) rfl rfl p_21 p_6 rfl rfl (.cons (by exact (congrArg PV.flat (A.g 124 rfl)).trans rfl) .nil) p_104 (le_ok rfl) (le_ok rfl) rfl rfl trivial rfl rfl)) ?_
   exact .nil _ _
  refine TL.c (Step.ap 3 1 8 (.ints .i64 [y17]) (.ints .i64 ((wN b i) ++ [y17])) (.froz rfl p_101)) ?_
  refine TL.rl [(7, (.one (.row 41 [])))] [] ?_
  refine T.region ?_
  refine TL.rx 1 [(80, (pI (16 + (i : Int))))] [] ?_
  refine TL.c (Step.bin (r := .int .i64 ((16 + (i : Int)) + 1)) rfl rfl (lt_ok rfl) rfl rfl (Bin.add (a := (16 + (i : Int))) (b := 1) p_10)) ?_
  refine TL.rl [(9, (pI ((16 + (i : Int)) + 1)))] [] ?_
  subst hy17_ hy16_ hy15_ hy14_ hy13_ hy12_ hy11_
  refine ⟨i + 1, by omega, by first | omega | (dsimp only; omega), Env.le_mk ⟨rfl, ?_, rfl, trivial⟩ ⟨?_, trivial⟩ trivial⟩ <;> exact p_93
 refine T.exit (T.sg ?_)
 refine TL.c (Step.cz (ok_spec_l04K )) ?_
 refine TL.rl [(14, (.one (.row 1127 [])))] [] ?_
 refine T.sg ?_
 refine TL.c (Step.lt 3 1 8 [] [] (.ints .i64 [])) ?_
 refine TL.rx 1 [(129, (.one (.d (.ints .i64 h))))] [] ?_
 refine TL.c (Step.ap 3 1 8 (.ints .i64 h) (.ints .i64 ([] ++ h)) (.froz rfl p_101)) ?_
 refine TL.rl [(15, (.one (.row 128 [])))] [] ?_
 refine T.seq (T.sg ?_)
 refine TL.freeze (r := 128) rfl (fun _ h => h) ?_
 refine TL.rl [(16, (pI 0))] [] ?_
 refine T.block ?_
 refine T.loop (ι := Nat) (fun xx_ => { tm := [(0, (.one (.d (.ints .i64 h)))), (7, (.one (.row 41 []))), (14, (.one (.row 1127 []))), (16, (pI (xx_ : Int))), (15, (.one (.d (.ints .i64 (vN h (wN b 48) xx_)))))], rows := [(41, (3, (.ints .i64 (wN b 48)))), (1127, (3, (.ints .i64 shaK)))], boxes := [] }) (fun xx_ => xx_ ≤ 64) (fun xx_ => 64 - xx_) 0 ?_ ?_ ?_
 · refine Env.le_mk ⟨rfl, rfl, rfl, ?_, ?_, trivial⟩ ⟨?_, rfl, trivial⟩ trivial <;> exact p_94
 · exact Nat.zero_le _
 intro i hx
 try dsimp only at hx ⊢
 have hl_ := wN_len b 48
 have hvl_ := vN_len (h := h) (w := wN b 48) p_4 i
 have hkl_ : shaK.length = 64 := rfl
 refine T.seq ?_
 refine T.sr [(132, (pB (decide ((i : Int) < 64))))] [] ?_
 refine T.ci rfl (fun h18 => ?_) (fun h18 => ?_)
 ·refine T.skip (T.seq (T.block (T.sg ?_)))
  refine TL.rx 1 [(135, (.one (.d (.ints .i64 (vN h (wN b 48) i)))))] [] ?_
  refine TL.c (Step.index (e := 3) (z := 1) (i := 4) rfl rfl (lt_ok rfl) p_6 rfl rfl rfl (lt_ok rfl) rfl p_5 p_35) ?_
  refine TL.c (Step.load (e := (.int .i64 ((vN h (wN b 48) i).getD 4 0))) rfl rfl (lt_ok rfl) p_6 rfl rfl) ?_
  refine TL.rl [(17, (pI ((vN h (wN b 48) i).getD 4 0)))] [] ?_
  refine T.sg ?_
  refine TL.rx 1 [(138, (.one (.d (.ints .i64 (vN h (wN b 48) i)))))] [] ?_
  refine TL.c (Step.index (e := 3) (z := 1) (i := 0) rfl rfl (lt_ok rfl) p_6 rfl rfl rfl (lt_ok rfl) rfl p_5 p_35) ?_
  refine TL.c (Step.load (e := (.int .i64 ((vN h (wN b 48) i).getD 0 0))) rfl rfl (lt_ok rfl) p_6 rfl rfl) ?_
  refine TL.rl [(18, (pI ((vN h (wN b 48) i).getD 0 0)))] [] ?_
  refine T.seq ?_
  obtain ⟨y19, hy19_⟩ : ∃ y_, y_ = bxor (turnW ((vN h (wN b 48) i).getD 4 0) 6) (turnW ((vN h (wN b 48) i).getD 4 0) 11) := ⟨_, rfl⟩
  obtain ⟨y20, hy20_⟩ : ∃ y_, y_ = bxor y19 (turnW ((vN h (wN b 48) i).getD 4 0) 25) := ⟨_, rfl⟩
  obtain ⟨y21, hy21_⟩ : ∃ y_, y_ = wadd ((vN h (wN b 48) i).getD 7 0) y20 := ⟨_, rfl⟩
  obtain ⟨y22, hy22_⟩ : ∃ y_, y_ = band ((vN h (wN b 48) i).getD 4 0) ((vN h (wN b 48) i).getD 5 0) := ⟨_, rfl⟩
  obtain ⟨y23, hy23_⟩ : ∃ y_, y_ = bxor 4294967295 ((vN h (wN b 48) i).getD 4 0) := ⟨_, rfl⟩
  obtain ⟨y24, hy24_⟩ : ∃ y_, y_ = band y23 ((vN h (wN b 48) i).getD 6 0) := ⟨_, rfl⟩
  obtain ⟨y25, hy25_⟩ : ∃ y_, y_ = wadd (wadd y21 (bxor y22 y24)) (shaK.getD i 0) := ⟨_, rfl⟩
  obtain ⟨y26, hy26_⟩ : ∃ y_, y_ = wadd y25 ((wN b 48).getD i 0) := ⟨_, rfl⟩
  refine T.draw [⟨141, (.one (.d (.ints .i64 (vN h (wN b 48) i)))), []⟩, ⟨142, (.one (.eptr (.ints .i64 (vN h (wN b 48) i)) 7 0)), []⟩, ⟨143, (pI ((vN h (wN b 48) i).getD 7 0)), []⟩, ⟨144, (pI ((vN h (wN b 48) i).getD 4 0)), []⟩, ⟨145, (pI (turnW ((vN h (wN b 48) i).getD 4 0) 6)), []⟩, ⟨146, (pI ((vN h (wN b 48) i).getD 4 0)), []⟩, ⟨147, (pI (turnW ((vN h (wN b 48) i).getD 4 0) 11)), []⟩, ⟨148, (pI y19), []⟩, ⟨149, (pI ((vN h (wN b 48) i).getD 4 0)), []⟩, ⟨150, (pI (turnW ((vN h (wN b 48) i).getD 4 0) 25)), []⟩, ⟨151, (pI y20), []⟩, ⟨152, (pI y21), []⟩, ⟨153, (pI ((vN h (wN b 48) i).getD 4 0)), []⟩, ⟨154, (.one (.d (.ints .i64 (vN h (wN b 48) i)))), []⟩, ⟨155, (.one (.eptr (.ints .i64 (vN h (wN b 48) i)) 5 0)), []⟩, ⟨156, (pI ((vN h (wN b 48) i).getD 5 0)), []⟩, ⟨157, (pI y22), []⟩, ⟨158, (pI ((vN h (wN b 48) i).getD 4 0)), []⟩, ⟨159, (pI y23), []⟩, ⟨160, (.one (.d (.ints .i64 (vN h (wN b 48) i)))), []⟩, ⟨161, (.one (.eptr (.ints .i64 (vN h (wN b 48) i)) 6 0)), []⟩, ⟨162, (pI ((vN h (wN b 48) i).getD 6 0)), []⟩, ⟨163, (pI y24), []⟩, ⟨164, (pI (bxor y22 y24)), []⟩, ⟨165, (pI (wadd y21 (bxor y22 y24))), []⟩, ⟨166, (.one (.row 1127 [])), []⟩, ⟨167, (pI (i : Int)), []⟩, ⟨168, (.one (.rptr 1127 [] i 0)), []⟩, ⟨169, (pI (shaK.getD i 0)), []⟩, ⟨170, (pI y25), []⟩, ⟨171, (.one (.row 41 [])), []⟩, ⟨172, (pI (i : Int)), []⟩, ⟨173, (.one (.rptr 41 [] i 0)), []⟩, ⟨174, (pI ((wN b 48).getD i 0)), []⟩, ⟨175, (pI y26), []⟩, ⟨19, (pI y26), []⟩] p_6 p_6 ?_ ?_
  ·refine .cons (fun E A => A.mv 15 141) ?_
   refine .cons (fun E A => OpStep.plain rfl (Step.index (e := 3) (z := 1) (i := 7) (t := 142) rfl rfl p_21 p_6 (A.g 141 rfl) rfl rfl (lt_ok rfl) rfl p_5 p_35)) ?_
   refine .cons (fun E A => OpStep.plain rfl (Step.load (e := (.int .i64 ((vN h (wN b 48) i).getD 7 0))) (t := 143) rfl rfl p_21 p_6 (A.g 142 rfl) rfl)) ?_
   refine .cons (fun E A => A.mv 17 144) ?_
   refine .cons (fun E A => OpStep.plain rfl (Step.cd (xs := [.tmp 144, .const (.int .i64 6)]) (ps := [(pI ((vN h (wN b 48) i).getD 4 0)), (pI 6)]) (g := .func 147) false 145 (evs_cons (A.g 144 rfl) (evs_cons rfl (rfl))) (.cons (.one (.d _)) (.cons (.one (.d _)) .nil)) (ok_spec_l04Turn ((vN h (wN b 48) i).getD 4 0) 6 p_103) (At.freshRows A rfl))) ?_
   refine .cons (fun E A => A.mv 17 146) ?_
   refine .cons (fun E A => OpStep.plain rfl (Step.cd (xs := [.tmp 146, .const (.int .i64 11)]) (ps := [(pI ((vN h (wN b 48) i).getD 4 0)), (pI 11)]) (g := .func 147) false 147 (evs_cons (A.g 146 rfl) (evs_cons rfl (rfl))) (.cons (.one (.d _)) (.cons (.one (.d _)) .nil)) (ok_spec_l04Turn ((vN h (wN b 48) i).getD 4 0) 11 p_103) (At.freshRows A rfl))) ?_
   refine .cons (fun E A => OpStep.plain rfl (Step.bd (r := .int .i64 y19) 148 (A.g 145 rfl) (A.g 147 rfl) (Bin.xor (k := .i64) (a := (turnW ((vN h (wN b 48) i).getD 4 0) 6)) (b := (turnW ((vN h (wN b 48) i).getD 4 0) 11)) (hy19_.symm)))) ?_
   refine .cons (fun E A => A.mv 17 149) ?_
   refine .cons (fun E A => OpStep.plain rfl (Step.cd (xs := [.tmp 149, .const (.int .i64 25)]) (ps := [(pI ((vN h (wN b 48) i).getD 4 0)), (pI 25)]) (g := .func 147) false 150 (evs_cons (A.g 149 rfl) (evs_cons rfl (rfl))) (.cons (.one (.d _)) (.cons (.one (.d _)) .nil)) (ok_spec_l04Turn ((vN h (wN b 48) i).getD 4 0) 25 p_103) (At.freshRows A rfl))) ?_
   refine .cons (fun E A => OpStep.plain rfl (Step.bd (r := .int .i64 y20) 151 (A.g 148 rfl) (A.g 150 rfl) (Bin.xor (k := .i64) (a := y19) (b := (turnW ((vN h (wN b 48) i).getD 4 0) 25)) (hy20_.symm)))) ?_
   refine .cons (fun E A => OpStep.plain rfl (Step.bd (r := .int .i64 y21) 152 (A.g 143 rfl) (A.g 151 rfl) (Bin.add (k := .i64) (a := ((vN h (wN b 48) i).getD 7 0)) (b := y20) (hy21_.symm)))) ?_
   refine .cons (fun E A => A.mv 17 153) ?_
   refine .cons (fun E A => A.mv 15 154) ?_
   refine .cons (fun E A => OpStep.plain rfl (Step.index (e := 3) (z := 1) (i := 5) (t := 155) rfl rfl p_21 p_6 (A.g 154 rfl) rfl rfl (lt_ok rfl) rfl p_5 p_35)) ?_
   refine .cons (fun E A => OpStep.plain rfl (Step.load (e := (.int .i64 ((vN h (wN b 48) i).getD 5 0))) (t := 156) rfl rfl p_21 p_6 (A.g 155 rfl) rfl)) ?_
   refine .cons (fun E A => OpStep.plain rfl (Step.bd (r := .int .i64 y22) 157 (A.g 153 rfl) (A.g 156 rfl) (Bin.and (k := .i64) (a := ((vN h (wN b 48) i).getD 4 0)) (b := ((vN h (wN b 48) i).getD 5 0)) (hy22_.symm)))) ?_
   refine .cons (fun E A => A.mv 17 158) ?_
   refine .cons (fun E A => OpStep.plain rfl (Step.bd (r := .int .i64 y23) 159 rfl (A.g 158 rfl) (Bin.xor (k := .i64) (a := 4294967295) (b := ((vN h (wN b 48) i).getD 4 0)) (hy23_.symm)))) ?_
   refine .cons (fun E A => A.mv 15 160) ?_
   refine .cons (fun E A => OpStep.plain rfl (Step.index (e := 3) (z := 1) (i := 6) (t := 161) rfl rfl p_21 p_6 (A.g 160 rfl) rfl rfl (lt_ok rfl) rfl p_5 p_35)) ?_
   refine .cons (fun E A => OpStep.plain rfl (Step.load (e := (.int .i64 ((vN h (wN b 48) i).getD 6 0))) (t := 162) rfl rfl p_21 p_6 (A.g 161 rfl) rfl)) ?_
   refine .cons (fun E A => OpStep.plain rfl (Step.bd (r := .int .i64 y24) 163 (A.g 159 rfl) (A.g 162 rfl) (Bin.and (k := .i64) (a := y23) (b := ((vN h (wN b 48) i).getD 6 0)) (hy24_.symm)))) ?_
   refine .cons (fun E A => OpStep.plain rfl (Step.bd (r := .int .i64 (bxor y22 y24)) 164 (A.g 157 rfl) (A.g 163 rfl) (Bin.xor (k := .i64) (a := y22) (b := y24) (rfl)))) ?_
   refine .cons (fun E A => OpStep.plain rfl (Step.bd (r := .int .i64 (wadd y21 (bxor y22 y24))) 165 (A.g 152 rfl) (A.g 164 rfl) (Bin.add (k := .i64) (a := y21) (b := (bxor y22 y24)) (rfl)))) ?_
   refine .cons (fun E A => A.mv 14 166) ?_
   refine .cons (fun E A => A.mv 16 167) ?_
   refine .cons (fun E A => OpStep.plain rfl (Step.index_row (e := 3) (z := 1) (i := (i : Int)) (t := 168) rfl rfl p_21 p_6 (A.g 166 rfl) (by exact (A.row 1127 (by kernel_rfl)).trans rfl) rfl rfl (lt_ok rfl) (A.g 167 rfl) p_5 p_76)) ?_
   refine .cons (fun E A => OpStep.plain rfl (Step.load_row (c := cI (shaK.getD i 0)) (t := 169) rfl rfl p_21 p_6 (A.g 168 rfl) (by exact (A.row 1127 (by kernel_rfl)).trans rfl) rfl)) ?_
   refine .cons (fun E A => OpStep.plain rfl (Step.bd (r := .int .i64 y25) 170 (A.g 165 rfl) (A.g 169 rfl) (Bin.add (k := .i64) (a := (wadd y21 (bxor y22 y24))) (b := (shaK.getD i 0)) (hy25_.symm)))) ?_
   refine .cons (fun E A => A.mv 7 171) ?_
   refine .cons (fun E A => A.mv 16 172) ?_
   refine .cons (fun E A => OpStep.plain rfl (Step.index_row (e := 3) (z := 1) (i := (i : Int)) (t := 173) rfl rfl p_21 p_6 (A.g 171 rfl) p_117 rfl rfl (lt_ok rfl) (A.g 172 rfl) p_5 p_76)) ?_
   refine .cons (fun E A => OpStep.plain rfl (Step.load_row (c := cI ((wN b 48).getD i 0)) (t := 174) rfl rfl p_21 p_6 (A.g 173 rfl) p_117 rfl)) ?_
   refine .cons (fun E A => OpStep.plain rfl (Step.bd (r := .int .i64 y26) 175 (A.g 170 rfl) (A.g 174 rfl) (Bin.add (k := .i64) (a := y25) (b := ((wN b 48).getD i 0)) (hy26_.symm)))) ?_
   refine .cons (fun E A => A.as 175 19) ?_
   exact .nil _ _
  refine TL.nil (T.seq ?_)
  obtain ⟨y27, hy27_⟩ : ∃ y_, y_ = bxor (turnW ((vN h (wN b 48) i).getD 0 0) 2) (turnW ((vN h (wN b 48) i).getD 0 0) 13) := ⟨_, rfl⟩
  obtain ⟨y28, hy28_⟩ : ∃ y_, y_ = bxor y27 (turnW ((vN h (wN b 48) i).getD 0 0) 22) := ⟨_, rfl⟩
  obtain ⟨y29, hy29_⟩ : ∃ y_, y_ = band ((vN h (wN b 48) i).getD 0 0) ((vN h (wN b 48) i).getD 1 0) := ⟨_, rfl⟩
  obtain ⟨y30, hy30_⟩ : ∃ y_, y_ = band ((vN h (wN b 48) i).getD 0 0) ((vN h (wN b 48) i).getD 2 0) := ⟨_, rfl⟩
  obtain ⟨y31, hy31_⟩ : ∃ y_, y_ = band ((vN h (wN b 48) i).getD 1 0) ((vN h (wN b 48) i).getD 2 0) := ⟨_, rfl⟩
  obtain ⟨y32, hy32_⟩ : ∃ y_, y_ = wadd y28 (bxor (bxor y29 y30) y31) := ⟨_, rfl⟩
  refine T.draw [⟨176, (pI ((vN h (wN b 48) i).getD 0 0)), []⟩, ⟨177, (pI (turnW ((vN h (wN b 48) i).getD 0 0) 2)), []⟩, ⟨178, (pI ((vN h (wN b 48) i).getD 0 0)), []⟩, ⟨179, (pI (turnW ((vN h (wN b 48) i).getD 0 0) 13)), []⟩, ⟨180, (pI y27), []⟩, ⟨181, (pI ((vN h (wN b 48) i).getD 0 0)), []⟩, ⟨182, (pI (turnW ((vN h (wN b 48) i).getD 0 0) 22)), []⟩, ⟨183, (pI y28), []⟩, ⟨184, (pI ((vN h (wN b 48) i).getD 0 0)), []⟩, ⟨185, (.one (.d (.ints .i64 (vN h (wN b 48) i)))), []⟩, ⟨186, (.one (.eptr (.ints .i64 (vN h (wN b 48) i)) 1 0)), []⟩, ⟨187, (pI ((vN h (wN b 48) i).getD 1 0)), []⟩, ⟨188, (pI y29), []⟩, ⟨189, (pI ((vN h (wN b 48) i).getD 0 0)), []⟩, ⟨190, (.one (.d (.ints .i64 (vN h (wN b 48) i)))), []⟩, ⟨191, (.one (.eptr (.ints .i64 (vN h (wN b 48) i)) 2 0)), []⟩, ⟨192, (pI ((vN h (wN b 48) i).getD 2 0)), []⟩, ⟨193, (pI y30), []⟩, ⟨194, (pI (bxor y29 y30)), []⟩, ⟨195, (.one (.d (.ints .i64 (vN h (wN b 48) i)))), []⟩, ⟨196, (.one (.eptr (.ints .i64 (vN h (wN b 48) i)) 1 0)), []⟩, ⟨197, (pI ((vN h (wN b 48) i).getD 1 0)), []⟩, ⟨198, (.one (.d (.ints .i64 (vN h (wN b 48) i)))), []⟩, ⟨199, (.one (.eptr (.ints .i64 (vN h (wN b 48) i)) 2 0)), []⟩, ⟨200, (pI ((vN h (wN b 48) i).getD 2 0)), []⟩, ⟨201, (pI y31), []⟩, ⟨202, (pI (bxor (bxor y29 y30) y31)), []⟩, ⟨203, (pI y32), []⟩, ⟨20, (pI y32), []⟩] p_6 p_6 ?_ ?_
  ·refine .cons (fun E A => A.mv 18 176) ?_
   refine .cons (fun E A => OpStep.plain rfl (Step.cd (xs := [.tmp 176, .const (.int .i64 2)]) (ps := [(pI ((vN h (wN b 48) i).getD 0 0)), (pI 2)]) (g := .func 147) false 177 (evs_cons (A.g 176 rfl) (evs_cons rfl (rfl))) (.cons (.one (.d _)) (.cons (.one (.d _)) .nil)) (ok_spec_l04Turn ((vN h (wN b 48) i).getD 0 0) 2 p_103) (At.freshRows A rfl))) ?_
   refine .cons (fun E A => A.mv 18 178) ?_
   refine .cons (fun E A => OpStep.plain rfl (Step.cd (xs := [.tmp 178, .const (.int .i64 13)]) (ps := [(pI ((vN h (wN b 48) i).getD 0 0)), (pI 13)]) (g := .func 147) false 179 (evs_cons (A.g 178 rfl) (evs_cons rfl (rfl))) (.cons (.one (.d _)) (.cons (.one (.d _)) .nil)) (ok_spec_l04Turn ((vN h (wN b 48) i).getD 0 0) 13 p_103) (At.freshRows A rfl))) ?_
   refine .cons (fun E A => OpStep.plain rfl (Step.bd (r := .int .i64 y27) 180 (A.g 177 rfl) (A.g 179 rfl) (Bin.xor (k := .i64) (a := (turnW ((vN h (wN b 48) i).getD 0 0) 2)) (b := (turnW ((vN h (wN b 48) i).getD 0 0) 13)) (hy27_.symm)))) ?_
   refine .cons (fun E A => A.mv 18 181) ?_
   refine .cons (fun E A => OpStep.plain rfl (Step.cd (xs := [.tmp 181, .const (.int .i64 22)]) (ps := [(pI ((vN h (wN b 48) i).getD 0 0)), (pI 22)]) (g := .func 147) false 182 (evs_cons (A.g 181 rfl) (evs_cons rfl (rfl))) (.cons (.one (.d _)) (.cons (.one (.d _)) .nil)) (ok_spec_l04Turn ((vN h (wN b 48) i).getD 0 0) 22 p_103) (At.freshRows A rfl))) ?_
   refine .cons (fun E A => OpStep.plain rfl (Step.bd (r := .int .i64 y28) 183 (A.g 180 rfl) (A.g 182 rfl) (Bin.xor (k := .i64) (a := y27) (b := (turnW ((vN h (wN b 48) i).getD 0 0) 22)) (hy28_.symm)))) ?_
   refine .cons (fun E A => A.mv 18 184) ?_
   refine .cons (fun E A => A.mv 15 185) ?_
   refine .cons (fun E A => OpStep.plain rfl (Step.index (e := 3) (z := 1) (i := 1) (t := 186) rfl rfl p_21 p_6 (A.g 185 rfl) rfl rfl (lt_ok rfl) rfl p_5 p_35)) ?_
   refine .cons (fun E A => OpStep.plain rfl (Step.load (e := (.int .i64 ((vN h (wN b 48) i).getD 1 0))) (t := 187) rfl rfl p_21 p_6 (A.g 186 rfl) rfl)) ?_
   refine .cons (fun E A => OpStep.plain rfl (Step.bd (r := .int .i64 y29) 188 (A.g 184 rfl) (A.g 187 rfl) (Bin.and (k := .i64) (a := ((vN h (wN b 48) i).getD 0 0)) (b := ((vN h (wN b 48) i).getD 1 0)) (hy29_.symm)))) ?_
   refine .cons (fun E A => A.mv 18 189) ?_
   refine .cons (fun E A => A.mv 15 190) ?_
   refine .cons (fun E A => OpStep.plain rfl (Step.index (e := 3) (z := 1) (i := 2) (t := 191) rfl rfl p_21 p_6 (A.g 190 rfl) rfl rfl (lt_ok rfl) rfl p_5 p_35)) ?_
   refine .cons (fun E A => OpStep.plain rfl (Step.load (e := (.int .i64 ((vN h (wN b 48) i).getD 2 0))) (t := 192) rfl rfl p_21 p_6 (A.g 191 rfl) rfl)) ?_
   refine .cons (fun E A => OpStep.plain rfl (Step.bd (r := .int .i64 y30) 193 (A.g 189 rfl) (A.g 192 rfl) (Bin.and (k := .i64) (a := ((vN h (wN b 48) i).getD 0 0)) (b := ((vN h (wN b 48) i).getD 2 0)) (hy30_.symm)))) ?_
   refine .cons (fun E A => OpStep.plain rfl (Step.bd (r := .int .i64 (bxor y29 y30)) 194 (A.g 188 rfl) (A.g 193 rfl) (Bin.xor (k := .i64) (a := y29) (b := y30) (rfl)))) ?_
   refine .cons (fun E A => A.mv 15 195) ?_
   refine .cons (fun E A => OpStep.plain rfl (Step.index (e := 3) (z := 1) (i := 1) (t := 196) rfl rfl p_21 p_6 (A.g 195 rfl) rfl rfl (lt_ok rfl) rfl p_5 p_35)) ?_
   refine .cons (fun E A => OpStep.plain rfl (Step.load (e := (.int .i64 ((vN h (wN b 48) i).getD 1 0))) (t := 197) rfl rfl p_21 p_6 (A.g 196 rfl) rfl)) ?_
   refine .cons (fun E A => A.mv 15 198) ?_
   refine .cons (fun E A => OpStep.plain rfl (Step.index (e := 3) (z := 1) (i := 2) (t := 199) rfl rfl p_21 p_6 (A.g 198 rfl) rfl rfl (lt_ok rfl) rfl p_5 p_35)) ?_
   refine .cons (fun E A => OpStep.plain rfl (Step.load (e := (.int .i64 ((vN h (wN b 48) i).getD 2 0))) (t := 200) rfl rfl p_21 p_6 (A.g 199 rfl) rfl)) ?_
   refine .cons (fun E A => OpStep.plain rfl (Step.bd (r := .int .i64 y31) 201 (A.g 197 rfl) (A.g 200 rfl) (Bin.and (k := .i64) (a := ((vN h (wN b 48) i).getD 1 0)) (b := ((vN h (wN b 48) i).getD 2 0)) (hy31_.symm)))) ?_
   refine .cons (fun E A => OpStep.plain rfl (Step.bd (r := .int .i64 (bxor (bxor y29 y30) y31)) 202 (A.g 194 rfl) (A.g 201 rfl) (Bin.xor (k := .i64) (a := (bxor y29 y30)) (b := y31) (rfl)))) ?_
   refine .cons (fun E A => OpStep.plain rfl (Step.bd (r := .int .i64 y32) 203 (A.g 183 rfl) (A.g 202 rfl) (Bin.add (k := .i64) (a := y28) (b := (bxor (bxor y29 y30) y31)) (hy32_.symm)))) ?_
   refine .cons (fun E A => A.as 203 20) ?_
   exact .nil _ _
  refine TL.nil ?_
  refine T.wk [(0, (.one (.d (.ints .i64 h)))), (7, (.one (.row 41 []))), (14, (.one (.row 1127 []))), (16, (pI (i : Int))), (15, (.one (.d (.ints .i64 (vN h (wN b 48) i))))), (19, (pI y26)), (20, (pI y32))] [(41, (3, (.ints .i64 (wN b 48)))), (1127, (3, (.ints .i64 shaK)))] [] ?_
  obtain ⟨y33, hy33_⟩ : ∃ y_, y_ = band (wadd y26 y32) 4294967295 := ⟨_, rfl⟩
  obtain ⟨y34, hy34_⟩ : ∃ y_, y_ = wadd ((vN h (wN b 48) i).getD 3 0) y26 := ⟨_, rfl⟩
  refine T.draw [⟨204, (pI y26), []⟩, ⟨205, (pI y32), []⟩, ⟨206, (pI (wadd y26 y32)), []⟩, ⟨207, (pI y33), []⟩, ⟨208, (.one (.d (.ints .i64 (vN h (wN b 48) i)))), []⟩, ⟨209, (.one (.eptr (.ints .i64 (vN h (wN b 48) i)) 0 0)), []⟩, ⟨210, (pI ((vN h (wN b 48) i).getD 0 0)), []⟩, ⟨211, (.one (.d (.ints .i64 (vN h (wN b 48) i)))), []⟩, ⟨212, (.one (.eptr (.ints .i64 (vN h (wN b 48) i)) 1 0)), []⟩, ⟨213, (pI ((vN h (wN b 48) i).getD 1 0)), []⟩, ⟨214, (.one (.d (.ints .i64 (vN h (wN b 48) i)))), []⟩, ⟨215, (.one (.eptr (.ints .i64 (vN h (wN b 48) i)) 2 0)), []⟩, ⟨216, (pI ((vN h (wN b 48) i).getD 2 0)), []⟩, ⟨217, (.one (.d (.ints .i64 (vN h (wN b 48) i)))), []⟩, ⟨218, (.one (.eptr (.ints .i64 (vN h (wN b 48) i)) 3 0)), []⟩, ⟨219, (pI ((vN h (wN b 48) i).getD 3 0)), []⟩, ⟨220, (pI y26), []⟩, ⟨221, (pI y34), []⟩, ⟨222, (pI (band y34 4294967295)), []⟩, ⟨223, (.one (.d (.ints .i64 (vN h (wN b 48) i)))), []⟩, ⟨224, (.one (.eptr (.ints .i64 (vN h (wN b 48) i)) 4 0)), []⟩, ⟨225, (pI ((vN h (wN b 48) i).getD 4 0)), []⟩, ⟨226, (.one (.d (.ints .i64 (vN h (wN b 48) i)))), []⟩, ⟨227, (.one (.eptr (.ints .i64 (vN h (wN b 48) i)) 5 0)), []⟩, ⟨228, (pI ((vN h (wN b 48) i).getD 5 0)), []⟩, ⟨229, (.one (.d (.ints .i64 (vN h (wN b 48) i)))), []⟩, ⟨230, (.one (.eptr (.ints .i64 (vN h (wN b 48) i)) 6 0)), []⟩, ⟨231, (pI ((vN h (wN b 48) i).getD 6 0)), []⟩, ⟨232, (.one (.d (.ints .i64 [y33, (vN h (wN b 48) i).getD 0 0, (vN h (wN b 48) i).getD 1 0, (vN h (wN b 48) i).getD 2 0, band y34 4294967295, (vN h (wN b 48) i).getD 4 0, (vN h (wN b 48) i).getD 5 0, (vN h (wN b 48) i).getD 6 0]))), []⟩] p_6 p_6 ?_ ?_
  ·refine .cons (fun E A => A.mv 19 204) ?_
   refine .cons (fun E A => A.mv 20 205) ?_
   refine .cons (fun E A => OpStep.plain rfl (Step.bd (r := .int .i64 (wadd y26 y32)) 206 (A.g 204 rfl) (A.g 205 rfl) (Bin.add (k := .i64) (a := y26) (b := y32) (rfl)))) ?_
   refine .cons (fun E A => OpStep.plain rfl (Step.bd (r := .int .i64 y33) 207 (A.g 206 rfl) rfl (Bin.and (k := .i64) (a := (wadd y26 y32)) (b := 4294967295) (hy33_.symm)))) ?_
   refine .cons (fun E A => A.mv 15 208) ?_
   refine .cons (fun E A => OpStep.plain rfl (Step.index (e := 3) (z := 1) (i := 0) (t := 209) rfl rfl p_21 p_6 (A.g 208 rfl) rfl rfl (lt_ok rfl) rfl p_5 p_35)) ?_
   refine .cons (fun E A => OpStep.plain rfl (Step.load (e := (.int .i64 ((vN h (wN b 48) i).getD 0 0))) (t := 210) rfl rfl p_21 p_6 (A.g 209 rfl) rfl)) ?_
   refine .cons (fun E A => A.mv 15 211) ?_
   refine .cons (fun E A => OpStep.plain rfl (Step.index (e := 3) (z := 1) (i := 1) (t := 212) rfl rfl p_21 p_6 (A.g 211 rfl) rfl rfl (lt_ok rfl) rfl p_5 p_35)) ?_
   refine .cons (fun E A => OpStep.plain rfl (Step.load (e := (.int .i64 ((vN h (wN b 48) i).getD 1 0))) (t := 213) rfl rfl p_21 p_6 (A.g 212 rfl) rfl)) ?_
   refine .cons (fun E A => A.mv 15 214) ?_
   refine .cons (fun E A => OpStep.plain rfl (Step.index (e := 3) (z := 1) (i := 2) (t := 215) rfl rfl p_21 p_6 (A.g 214 rfl) rfl rfl (lt_ok rfl) rfl p_5 p_35)) ?_
   refine .cons (fun E A => OpStep.plain rfl (Step.load (e := (.int .i64 ((vN h (wN b 48) i).getD 2 0))) (t := 216) rfl rfl p_21 p_6 (A.g 215 rfl) rfl)) ?_
   refine .cons (fun E A => A.mv 15 217) ?_
   refine .cons (fun E A => OpStep.plain rfl (Step.index (e := 3) (z := 1) (i := 3) (t := 218) rfl rfl p_21 p_6 (A.g 217 rfl) rfl rfl (lt_ok rfl) rfl p_5 p_35)) ?_
   refine .cons (fun E A => OpStep.plain rfl (Step.load (e := (.int .i64 ((vN h (wN b 48) i).getD 3 0))) (t := 219) rfl rfl p_21 p_6 (A.g 218 rfl) rfl)) ?_
   refine .cons (fun E A => A.mv 19 220) ?_
   refine .cons (fun E A => OpStep.plain rfl (Step.bd (r := .int .i64 y34) 221 (A.g 219 rfl) (A.g 220 rfl) (Bin.add (k := .i64) (a := ((vN h (wN b 48) i).getD 3 0)) (b := y26) (hy34_.symm)))) ?_
   refine .cons (fun E A => OpStep.plain rfl (Step.bd (r := .int .i64 (band y34 4294967295)) 222 (A.g 221 rfl) rfl (Bin.and (k := .i64) (a := y34) (b := 4294967295) (rfl)))) ?_
   refine .cons (fun E A => A.mv 15 223) ?_
   refine .cons (fun E A => OpStep.plain rfl (Step.index (e := 3) (z := 1) (i := 4) (t := 224) rfl rfl p_21 p_6 (A.g 223 rfl) rfl rfl (lt_ok rfl) rfl p_5 p_35)) ?_
   refine .cons (fun E A => OpStep.plain rfl (Step.load (e := (.int .i64 ((vN h (wN b 48) i).getD 4 0))) (t := 225) rfl rfl p_21 p_6 (A.g 224 rfl) rfl)) ?_
   refine .cons (fun E A => A.mv 15 226) ?_
   refine .cons (fun E A => OpStep.plain rfl (Step.index (e := 3) (z := 1) (i := 5) (t := 227) rfl rfl p_21 p_6 (A.g 226 rfl) rfl rfl (lt_ok rfl) rfl p_5 p_35)) ?_
   refine .cons (fun E A => OpStep.plain rfl (Step.load (e := (.int .i64 ((vN h (wN b 48) i).getD 5 0))) (t := 228) rfl rfl p_21 p_6 (A.g 227 rfl) rfl)) ?_
   refine .cons (fun E A => A.mv 15 229) ?_
   refine .cons (fun E A => OpStep.plain rfl (Step.index (e := 3) (z := 1) (i := 6) (t := 230) rfl rfl p_21 p_6 (A.g 229 rfl) rfl rfl (lt_ok rfl) rfl p_5 p_35)) ?_
   refine .cons (fun E A => OpStep.plain rfl (Step.load (e := (.int .i64 ((vN h (wN b 48) i).getD 6 0))) (t := 231) rfl rfl p_21 p_6 (A.g 230 rfl) rfl)) ?_
   refine .cons (fun E A => OpStep.plain rfl (Step.lit_d (e := 3) (z := 1) (by_ := 8) (xs := [.tmp 207, .tmp 210, .tmp 213, .tmp 216, .tmp 222, .tmp 225, .tmp 228, .tmp 231]) (pss := [[cI y33], [cI ((vN h (wN b 48) i).getD 0 0)], [cI ((vN h (wN b 48) i).getD 1 0)], [cI ((vN h (wN b 48) i).getD 2 0)], [cI (band y34 4294967295)], [cI ((vN h (wN b 48) i).getD 4 0)], [cI ((vN h (wN b 48) i).getD 5 0)], [cI ((vN h (wN b 48) i).getD 6 0)]]) (ds := [(.int .i64 y33), (.int .i64 ((vN h (wN b 48) i).getD 0 0)), (.int .i64 ((vN h (wN b 48) i).getD 1 0)), (.int .i64 ((vN h (wN b 48) i).getD 2 0)), (.int .i64 (band y34 4294967295)), (.int .i64 ((vN h (wN b 48) i).getD 4 0)), (.int .i64 ((vN h (wN b 48) i).getD 5 0)), (.int .i64 ((vN h (wN b 48) i).getD 6 0))]) (d := (.ints .i64 [y33, (vN h (wN b 48) i).getD 0 0, (vN h (wN b 48) i).getD 1 0, (vN h (wN b 48) i).getD 2 0, band y34 4294967295, (vN h (wN b 48) i).getD 4 0, (vN h (wN b 48) i).getD 5 0, (vN h (wN b 48) i).getD 6 0])) (t := 232) rfl rfl p_21 p_6 rfl rfl (.cons (by exact (congrArg PV.flat (A.g 207 rfl)).trans rfl) (.cons (by exact (congrArg PV.flat (A.g 210 rfl)).trans rfl) (.cons (by exact (congrArg PV.flat (A.g 213 rfl)).trans rfl) (.cons (by exact (congrArg PV.flat (A.g 216 rfl)).trans rfl) (.cons (by exact (congrArg PV.flat (A.g 222 rfl)).trans rfl) (.cons (by exact (congrArg PV.flat (A.g 225 rfl)).trans rfl) (.cons (by exact (congrArg PV.flat (A.g 228 rfl)).trans rfl) (.cons (by exact (congrArg PV.flat (A.g 231 rfl)).trans rfl) .nil)))))))) p_104 (le_ok rfl) (le_ok rfl) rfl rfl trivial rfl rfl)) ?_
   exact .nil _ _
  refine TL.rl [(15, (.one (.d (.ints .i64 [y33, (vN h (wN b 48) i).getD 0 0, (vN h (wN b 48) i).getD 1 0, (vN h (wN b 48) i).getD 2 0, band y34 4294967295, (vN h (wN b 48) i).getD 4 0, (vN h (wN b 48) i).getD 5 0, (vN h (wN b 48) i).getD 6 0]))))] [] ?_
  refine T.region ?_
  refine TL.rx 1 [(133, (pI (i : Int)))] [] ?_
  refine TL.c (Step.bin (r := .int .i64 ((i : Int) + 1)) rfl rfl (lt_ok rfl) rfl rfl (Bin.add (a := (i : Int)) (b := 1) p_10)) ?_
  refine TL.rl [(16, (pI ((i : Int) + 1)))] [] ?_
  subst hy34_ hy33_ hy32_ hy31_ hy30_ hy29_ hy28_ hy27_ hy26_ hy25_ hy24_ hy23_ hy22_ hy21_ hy20_ hy19_
  refine ⟨i + 1, by omega, by first | omega | (dsimp only; omega), Env.le_mk ⟨rfl, rfl, rfl, ?_, ?_, trivial⟩ ⟨rfl, rfl, trivial⟩ trivial⟩ <;> exact p_94
 refine T.exit (T.sg ?_)
 refine TL.c (Step.lt 3 1 8 [] [] (.ints .i64 [])) ?_
 refine TL.rl [(21, (.one (.row 233 [])))] [] ?_
 refine T.seq (T.sg ?_)
 refine TL.rx 1 [(234, (.one (.d (.ints .i64 h))))] [] ?_
 refine TL.c (Step.ln 3 1 (.ints .i64 h)) ?_
 refine TL.rl [(236, (pI 0))] [] ?_
 refine T.block ?_
 refine T.loop (ι := Nat) (fun xx_ => { tm := [(0, (.one (.d (.ints .i64 h)))), (15, (.one (.d (.ints .i64 (vN h (wN b 48) 64))))), (235, (pI (h.length : Int))), (236, (pI (xx_ : Int))), (21, (.one (.row 233 [])))], rows := [(1127, (3, (.ints .i64 shaK))), (233, (3, (.ints .i64 (outs h (vN h (wN b 48) 64) xx_))))], boxes := [] }) (fun xx_ => xx_ ≤ 8) (fun xx_ => 8 - xx_) 0 ?_ ?_ ?_
 · refine Env.le_mk ⟨rfl, ?_, rfl, ?_, rfl, trivial⟩ ⟨rfl, ?_, trivial⟩ trivial <;> exact p_47
 · exact Nat.zero_le _
 intro i hx
 try dsimp only at hx ⊢
 have hvl_ := vN_len (h := h) (w := wN b 48) p_4 64
 have hol_ := outs_len h (vN h (wN b 48) 64) i
 refine T.sr [(237, (pB (decide ((i : Int) < (h.length : Int)))))] [] ?_
 refine T.seq ?_
 refine T.ci rfl (fun h35 => ?_) (fun h35 => ?_)
 ·refine T.skip (T.seq (T.block ?_))
  refine T.sr [(22, (pI (i : Int)))] [] ?_
  obtain ⟨y36, hy36_⟩ : ∃ y_, y_ = wadd (h.getD i 0) ((vN h (wN b 48) 64).getD i 0) := ⟨_, rfl⟩
  refine T.draw [⟨239, (.one (.row 233 [])), []⟩, ⟨240, (.one (.d (.ints .i64 h))), []⟩, ⟨241, (pI (i : Int)), []⟩, ⟨242, (.one (.eptr (.ints .i64 h) i 0)), []⟩, ⟨243, (pI (h.getD i 0)), []⟩, ⟨244, (.one (.d (.ints .i64 (vN h (wN b 48) 64)))), []⟩, ⟨245, (pI (i : Int)), []⟩, ⟨246, (.one (.eptr (.ints .i64 (vN h (wN b 48) 64)) i 0)), []⟩, ⟨247, (pI ((vN h (wN b 48) 64).getD i 0)), []⟩, ⟨248, (pI y36), []⟩, ⟨249, (pI (band y36 4294967295)), []⟩, ⟨250, (.one (.d (.ints .i64 [band y36 4294967295]))), []⟩] p_6 p_6 ?_ ?_
  ·refine .cons (fun E A => A.mv 21 239) ?_
   refine .cons (fun E A => A.mv 0 240) ?_
   refine .cons (fun E A => A.mv 22 241) ?_
   refine .cons (fun E A => OpStep.plain rfl (Step.index (e := 3) (z := 1) (i := (i : Int)) (t := 242) rfl rfl p_21 p_6 (A.g 240 rfl) rfl rfl (lt_ok rfl) (A.g 241 rfl) p_5 p_35)) ?_
   refine .cons (fun E A => OpStep.plain rfl (Step.load (e := (.int .i64 (h.getD i 0))) (t := 243) rfl rfl p_21 p_6 (A.g 242 rfl) rfl)) ?_
   refine .cons (fun E A => A.mv 15 244) ?_
   refine .cons (fun E A => A.mv 22 245) ?_
   refine .cons (fun E A => OpStep.plain rfl (Step.index (e := 3) (z := 1) (i := (i : Int)) (t := 246) rfl rfl p_21 p_6 (A.g 244 rfl) rfl rfl (lt_ok rfl) (A.g 245 rfl) p_5 p_35)) ?_
   refine .cons (fun E A => OpStep.plain rfl (Step.load (e := (.int .i64 ((vN h (wN b 48) 64).getD i 0))) (t := 247) rfl rfl p_21 p_6 (A.g 246 rfl) rfl)) ?_
   refine .cons (fun E A => OpStep.plain rfl (Step.bd (r := .int .i64 y36) 248 (A.g 243 rfl) (A.g 247 rfl) (Bin.add (k := .i64) (a := (h.getD i 0)) (b := ((vN h (wN b 48) 64).getD i 0)) (hy36_.symm)))) ?_
   refine .cons (fun E A => OpStep.plain rfl (Step.bd (r := .int .i64 (band y36 4294967295)) 249 (A.g 248 rfl) rfl (Bin.and (k := .i64) (a := y36) (b := 4294967295) (rfl)))) ?_
   refine .cons (fun E A => OpStep.plain rfl (Step.lit_d (e := 3) (z := 1) (by_ := 8) (xs := [.tmp 249]) (pss := [[cI (band y36 4294967295)]]) (ds := [(.int .i64 (band y36 4294967295))]) (d := (.ints .i64 [band y36 4294967295])) (t := 250) rfl rfl p_21 p_6 rfl rfl (.cons (by exact (congrArg PV.flat (A.g 249 rfl)).trans rfl) .nil) p_104 (le_ok rfl) (le_ok rfl) rfl rfl trivial rfl rfl)) ?_
   exact .nil _ _
  refine TL.c (Step.ap 3 1 8 (.ints .i64 [band y36 4294967295]) (.ints .i64 ((outs h (vN h (wN b 48) 64) i) ++ [band y36 4294967295])) (.froz rfl p_101)) ?_
  refine TL.rl [(21, (.one (.row 233 [])))] [] ?_
  refine T.region ?_
  refine TL.c (Step.bin (r := .int .i64 ((i : Int) + 1)) rfl rfl (lt_ok rfl) rfl rfl (Bin.add (a := (i : Int)) (b := 1) p_10)) ?_
  refine TL.rl [(236, (pI ((i : Int) + 1)))] [] ?_
  subst hy36_
  refine ⟨i + 1, by omega, by first | omega | (dsimp only; omega), Env.le_mk ⟨rfl, rfl, rfl, ?_, rfl, trivial⟩ ⟨rfl, ?_, trivial⟩ trivial⟩ <;> exact p_47
 refine T.exit ?_
 refine T.sr [(4, (.one (.row 233 [])))] [] ?_
 refine T.ret ?_
 refine ⟨_, (.cons rfl .nil), rfl, _, (.o ?_ .nil)⟩ <;> exact p_25
theorem ok_spec_Sha (b : List Int) (h0_ : U8s b) (h1_ : b.length ≤ 17592186040000) : RO Tryz.prog 105 [.one (.ints .u8 b)] [(false, [.own 5 (.ints .u8 (sha b))])] := by
 refine RO.intro Tryz.func105 rfl 48 rfl (le_ok rfl) fun w Z => ?_
 refine T.bnd 0 0 rfl rfl fun hb_0_0 => ?_
 simp only [D.size, List.length_map] at hb_0_0
 refine T.sr [(2, (.one (.nil)))] [] ?_
 refine T.sg ?_
 refine TL.c (Step.cz (ok_spec_ShaInit )) ?_
 refine TL.rx 1 [(3, (.one (.row 1009 [])))] [] ?_
 refine TL.ren 1009 600003 rfl p_104 ?_
 refine TL.nil (T.sg ?_)
 refine TL.rx 1 [(10, (pS b))] [] ?_
 have nn1 := shaPad_mod b
 refine TL.c (Step.cz (ok_spec_ShaPad b p_0)) ?_
 refine TL.freeze (r := 1011) rfl (fun _ h => h) ?_
 refine TL.rl [(4, (pS (shaPad b)))] [] ?_
 refine T.seq ?_
 refine T.sr [(5, (pI 0))] [] ?_
 refine T.block ?_
 refine T.loop (ι := Nat) (fun xx_ => { tm := [(2, (.one (.nil))), (4, (pS (shaPad b))), (5, (pI (64 * (xx_ : Int)))), (3, (.one (.row 600003 [])))], rows := [(600003, (3, (.ints .i64 (hN (shaPad b) xx_))))], boxes := [] }) (fun xx_ => 64 * xx_ ≤ (shaPad b).length) (fun xx_ => (shaPad b).length - 64 * xx_) 0 ?_ ?_ ?_
 · refine Env.le_mk ⟨rfl, rfl, ?_, rfl, trivial⟩ ⟨?_, trivial⟩ trivial <;> exact p_22
 · exact Nat.zero_le _
 intro i hx
 try dsimp only at hx ⊢
 have hu_ := u8_sub (shaPad_u8 h0_)
 refine T.seq (T.sg ?_)
 refine TL.rx 2 [(12, (pI (64 * (i : Int)))), (13, (pS (shaPad b)))] [] ?_
 refine TL.c (Step.ln 5 1 (.ints .u8 (shaPad b))) ?_
 refine TL.rl [(15, (pB (decide ((64 * (i : Int)) < ((shaPad b).length : Int)))))] [] ?_
 refine T.ci rfl (fun h2 => ?_) (fun h2 => ?_)
 ·refine T.skip (T.seq (T.block (T.region ?_)))
  refine TL.rx 4 [(18, (.one (.row 600003 []))), (19, (pS (shaPad b))), (20, (pI (64 * (i : Int)))), (21, (pI (64 * (i : Int))))] [] ?_
  refine TL.ad ((64 * (i : Int)) + 64) ?_
  refine TL.c (Step.slice (e := 5) (z := 1) (l := (64 * (i : Int)).toNat) (h := ((64 * (i : Int)) + 64).toNat) rfl rfl (lt_ok rfl) p_6 rfl rfl rfl ((.some (i := (64 * (i : Int))) rfl p_17)) ((.some (i := ((64 * (i : Int)) + 64)) rfl p_17)) p_17 p_39 rfl) ?_
  have nn3 := shaBlock_len (hN (shaPad b) i) (((shaPad b).drop (64 * (i : Int)).toNat).take (((64 * (i : Int)) + 64).toNat - (64 * (i : Int)).toNat))
  refine TL.c (Step.cz (ok_spec_ShaBlock (hN (shaPad b) i) (((shaPad b).drop (64 * (i : Int)).toNat).take (((64 * (i : Int)) + 64).toNat - (64 * (i : Int)).toNat)) (by first | assumption | exact hu_ _ _))) ?_
  refine TL.rx 1 [(3, (.one (.row 1024 [])))] [] ?_
  refine TL.weaken (Env.drops_le [600003] _) ?_
  refine TL.ren 1024 600003 rfl p_104 ?_
  refine TL.nil (T.region ?_)
  refine TL.rx 1 [(16, (pI (64 * (i : Int))))] [] ?_
  refine TL.ad ((64 * (i : Int)) + 64) ?_
  refine TL.rl [(5, (pI ((64 * (i : Int)) + 64)))] [] ?_
  refine ⟨i + 1, by omega, by first | omega | (dsimp only; omega), Env.le_mk ⟨rfl, rfl, ?_, rfl, trivial⟩ ⟨?_, trivial⟩ trivial⟩ <;> exact p_22
 refine T.exit (T.sg ?_)
 refine TL.c (Step.lt 5 1 1 [] [] (.ints .u8 [])) ?_
 refine TL.rl [(6, (.one (.row 25 [])))] [] ?_
 refine T.seq (T.sg ?_)
 refine TL.rx 1 [(26, (.one (.row 600003 [])))] [] ?_
 refine TL.c (Step.ln 3 1 (.ints .i64 (hN (shaPad b) i))) ?_
 refine TL.rl [(28, (pI 0))] [] ?_
 refine T.block ?_
 refine T.loop (ι := Nat) (fun xx_ => { tm := [(2, (.one (.nil))), (26, (.one (.row 600003 []))), (27, (pI ((shaH b).length : Int))), (28, (pI (xx_ : Int))), (6, (.one (.row 25 [])))], rows := [(600003, (3, (.ints .i64 (shaH b)))), (25, (5, (.ints .u8 (outB (shaH b) xx_))))], boxes := [] }) (fun xx_ => xx_ ≤ (shaH b).length) (fun xx_ => (shaH b).length - xx_) 0 ?_ ?_ ?_
 · refine Env.le_mk ⟨rfl, rfl, ?_, ?_, rfl, trivial⟩ ⟨?_, ?_, trivial⟩ trivial <;> exact p_59
 · exact Nat.zero_le _
 intro i hx
 try dsimp only at hx ⊢
 have hl_ := outB_len (shaH b) i
 have hh_ : (shaH b).length ≤ 8 := hN_len _ _
 refine T.sr [(29, (pB (decide ((i : Int) < ((shaH b).length : Int)))))] [] ?_
 refine T.seq ?_
 refine T.ci rfl (fun h4 => ?_) (fun h4 => ?_)
 ·refine T.skip (T.seq (T.block (T.sg ?_)))
  refine TL.c (Step.index_row (e := 3) (z := 1) (i := (i : Int)) rfl rfl (lt_ok rfl) p_6 rfl rfl rfl rfl (lt_ok rfl) rfl p_17 p_112) ?_
  refine TL.c (Step.load_row (c := cI ((shaH b).getD i 0)) rfl rfl (lt_ok rfl) p_6 rfl rfl rfl) ?_
  refine TL.rl [(8, (pI ((shaH b).getD i 0)))] [] ?_
  refine T.region ?_
  refine TL.rx 2 [(32, (.one (.row 25 []))), (33, (pI ((shaH b).getD i 0)))] [] ?_
  refine TL.c (Step.bin (r := .int .i64 (bshr ((shaH b).getD i 0) 24)) rfl rfl (lt_ok rfl) rfl rfl (Bin.shr (k := .i64) (k' := .u64) (a := ((shaH b).getD i 0)) (b := 24) p_17 (rfl))) ?_
  refine TL.c (Step.conv (c := ((bshr ((shaH b).getD i 0) 24) % 256)) rfl rfl (lt_ok rfl) p_6 p_6 rfl (wrap_byte _)) ?_
  refine TL.rx 1 [(36, (pI ((shaH b).getD i 0)))] [] ?_
  refine TL.c (Step.bin (r := .int .i64 (bshr ((shaH b).getD i 0) 16)) rfl rfl (lt_ok rfl) rfl rfl (Bin.shr (k := .i64) (k' := .u64) (a := ((shaH b).getD i 0)) (b := 16) p_17 (rfl))) ?_
  refine TL.c (Step.conv (c := ((bshr ((shaH b).getD i 0) 16) % 256)) rfl rfl (lt_ok rfl) p_6 p_6 rfl (wrap_byte _)) ?_
  refine TL.rx 1 [(39, (pI ((shaH b).getD i 0)))] [] ?_
  refine TL.c (Step.bin (r := .int .i64 (bshr ((shaH b).getD i 0) 8)) rfl rfl (lt_ok rfl) rfl rfl (Bin.shr (k := .i64) (k' := .u64) (a := ((shaH b).getD i 0)) (b := 8) p_17 (rfl))) ?_
  refine TL.c (Step.conv (c := ((bshr ((shaH b).getD i 0) 8) % 256)) rfl rfl (lt_ok rfl) p_6 p_6 rfl (wrap_byte _)) ?_
  refine TL.rx 1 [(42, (pI ((shaH b).getD i 0)))] [] ?_
  refine TL.c (Step.conv (c := (((shaH b).getD i 0) % 256)) rfl rfl (lt_ok rfl) p_6 p_6 rfl (wrap_byte _)) ?_
  refine TL.c (Step.lt 5 1 1 [.tmp 35, .tmp 38, .tmp 41, .tmp 43] [[.d (.int .u8 ((bshr ((shaH b).getD i 0) 24) % 256))], [.d (.int .u8 ((bshr ((shaH b).getD i 0) 16) % 256))], [.d (.int .u8 ((bshr ((shaH b).getD i 0) 8) % 256))], [.d (.int .u8 (((shaH b).getD i 0) % 256))]] (.ints .u8 [(bshr ((shaH b).getD i 0) 24) % 256, (bshr ((shaH b).getD i 0) 16) % 256, (bshr ((shaH b).getD i 0) 8) % 256, ((shaH b).getD i 0) % 256])) ?_
  refine TL.c (Step.ap 5 1 1 (.ints .u8 [(bshr ((shaH b).getD i 0) 24) % 256, (bshr ((shaH b).getD i 0) 16) % 256, (bshr ((shaH b).getD i 0) 8) % 256, ((shaH b).getD i 0) % 256]) (.ints .u8 ((outB (shaH b) i) ++ [(bshr ((shaH b).getD i 0) 24) % 256, (bshr ((shaH b).getD i 0) 16) % 256, (bshr ((shaH b).getD i 0) 8) % 256, ((shaH b).getD i 0) % 256])) (.copy rfl rfl rfl p_101)) ?_
  refine TL.rl [(6, (.one (.row 25 [])))] [] ?_
  refine T.region ?_
  refine TL.ad ((i : Int) + 1) ?_
  refine TL.rl [(28, (pI ((i : Int) + 1)))] [] ?_
  refine ⟨i + 1, by omega, by first | omega | (dsimp only; omega), Env.le_mk ⟨rfl, rfl, rfl, ?_, rfl, trivial⟩ ⟨rfl, ?_, trivial⟩ trivial⟩ <;> exact p_59
 refine T.exit ?_
 refine T.sr [(2, (.one (.row 25 [])))] [] ?_
 refine T.ret ?_
 exact p_175
theorem ok_spec_LeafHash (x : List Int) (h0_ : U8s x) (h1_ : x.length ≤ 17592186030000) : RO Tryz.prog 106 [.one (.ints .u8 x)] [(false, [.own 5 (.ints .u8 (leafHash x))])] := by
 refine RO.intro Tryz.func106 rfl 7 rfl (le_ok rfl) fun w Z => ?_
 refine T.bnd 0 0 rfl rfl fun hb_0_0 => ?_
 simp only [D.size, List.length_map] at hb_0_0
 refine T.sr [(2, (.one (.nil)))] [] ?_
 refine T.sg ?_
 refine TL.c (Step.lt 5 1 1 [.const (.int .u8 0)] [[.d (.int .u8 0)]] (.ints .u8 [0])) ?_
 refine TL.rx 1 [(4, (pS x))] [] ?_
 refine TL.c (Step.ap 5 1 1 (.ints .u8 x) (.ints .u8 ([0] ++ x)) (.froz rfl p_101)) ?_
 have nn1 := sha_len ([0] ++ x)
 have nn2 := sha_u8 ([0] ++ x)
 refine TL.c (Step.cz (ok_spec_Sha ([0] ++ x) p_38 p_87)) ?_
 refine TL.rl [(2, (.one (.row 1006 [])))] [] ?_
 refine T.ret ?_
 exact p_135
theorem ok_spec_SplitAt (n : Int) (h0_ : n ≤ 9223372036854775807) : RO Tryz.prog 107 [.one (.int .i64 n)] [(false, [.rd (.int .i64 (ag n))])] := by
 refine RO.intro Tryz.func107 rfl 14 rfl (le_ok rfl) fun w Z => ?_
 refine T.sr [(2, (pI 0))] [] ?_
 refine T.seq ?_
 refine T.sr [(5, (pB (decide (n < 2))))] [] ?_
 refine T.ci rfl (fun h1 => ?_) (fun h1 => ?_)
 ·refine T.sr [(2, (pI 0))] [] ?_
  refine T.ret ?_
  exact p_169
 refine T.skip ?_
 refine T.sr [(3, (pI 1))] [] ?_
 refine T.seq (T.block ?_)
 refine T.loop (ι := Nat × Int) (fun xx_ => { tm := [(0, (pI n)), (2, (pI 0)), (3, (pI (xx_.2)))], rows := [], boxes := [] }) (fun xx_ => 1 ≤ (xx_.2) ∧ (xx_.2) < n ∧ n ≤ (xx_.2) + (xx_.1) ∧ splitGo (xx_.1) n (xx_.2) = splitAt n) (fun xx_ => (xx_.1)) (n.toNat, 1) ?_ ?_ ?_
 · refine Env.le_mk ⟨rfl, rfl, ?_, trivial⟩ trivial trivial <;> exact p_113
 · (dsimp only; refine ⟨by omega, by omega, by omega, rfl⟩)
 intro xx_ hx
 obtain ⟨d, x⟩ := xx_
 try dsimp only at hx ⊢
 obtain ⟨hx1, hx2, hx3, hx4⟩ := hx
 obtain ⟨d', rfl⟩ : ∃ d', d = d' + 1 := ⟨d - 1, by omega⟩
 unfold splitGo at hx4
 refine T.seq (T.sg ?_)
 refine TL.rx 3 [(6, (pI x)), (7, (pI n)), (8, (pI x))] [] ?_
 refine TL.sb (n - x) ?_
 refine TL.rl [(10, (pB (decide (x < (n - x)))))] [] ?_
 refine T.ci rfl (fun h2 => ?_) (fun h2 => ?_)
 ·refine T.skip (T.block (T.region ?_))
  refine TL.rx 1 [(11, (pI x))] [] ?_
  refine TL.ml (2 * x) ?_
  refine TL.rl [(3, (pI (2 * x)))] [] ?_
  refine ⟨(d', 2 * x), by (try dsimp only); (rw [if_pos p_4] at hx4; refine ⟨by omega, by omega, by omega, ?_⟩; first | exact hx4 | (rw [Int.mul_comm]; exact hx4)), by (dsimp only; omega), Env.le_mk ⟨rfl, rfl, ?_, trivial⟩ trivial trivial⟩ <;> exact p_113
 refine T.exit ?_
 refine T.sr [(2, (pI x))] [] ?_
 refine T.ret ?_
 exact p_169
theorem ok_spec_NodeHash (a : List Int) (b : List Int) (h0_ : U8s a) (h1_ : U8s b) (h2_ : a.length ≤ 1048576) (h3_ : b.length ≤ 1048576) : RO Tryz.prog 108 [.one (.ints .u8 a), .one (.ints .u8 b)] [(false, [.own 5 (.ints .u8 (nodeHash a b))])] := by
 refine RO.intro Tryz.func108 rfl 13 rfl (le_ok rfl) fun w Z => ?_
 refine T.bnd 0 0 rfl rfl fun hb_0_0 => ?_
 simp only [D.size, List.length_map] at hb_0_0
 refine T.bnd 1 0 rfl rfl fun hb_1_0 => ?_
 simp only [D.size, List.length_map] at hb_1_0
 refine T.sr [(4, (.one (.nil)))] [] ?_
 refine T.sg ?_
 refine TL.c (Step.lt 5 1 1 [.const (.int .u8 1)] [[.d (.int .u8 1)]] (.ints .u8 [1])) ?_
 refine TL.rx 1 [(7, (pS a))] [] ?_
 refine TL.c (Step.ap 5 1 1 (.ints .u8 a) (.ints .u8 ([1] ++ a)) (.froz rfl p_101)) ?_
 refine TL.rl [(5, (.one (.row 6 [])))] [] ?_
 refine T.sg ?_
 refine TL.rx 2 [(9, (.one (.row 6 []))), (10, (pS b))] [] ?_
 refine TL.c (Step.ap 5 1 1 (.ints .u8 b) (.ints .u8 (([1] ++ a) ++ b)) (.froz rfl p_101)) ?_
 have nn1 := sha_len (([1] ++ a) ++ b)
 have nn2 := sha_u8 (([1] ++ a) ++ b)
 refine TL.c (Step.cz (ok_spec_Sha (([1] ++ a) ++ b) p_38 p_87)) ?_
 refine TL.rl [(4, (.one (.row 1012 [])))] [] ?_
 refine T.ret ?_
 exact p_135
theorem ok_spec_TreeRoot_r (d_ : Nat) : ∀ (l : List (List Int)) (hd_ : l.length = d_) (h0_ : ∀ y ∈ l, U8s y) (h1_ : ∀ y ∈ l, y.length ≤ 1048576), RO Tryz.prog 67 [.one (.bss l)] [(false, [.own 5 (.ints .u8 (aj l))])] := by
 refine Nat.strongRecOn d_ ?_
 intro d_ ih l hd_ h0_ h1_
 subst hd_
 refine RO.intro Tryz.func67 rfl 27 rfl (le_ok rfl) fun w Z => ?_
 refine T.bnd 0 0 rfl rfl fun hb_0_0 => ?_
 simp only [D.size, List.length_map] at hb_0_0
 have hsb_ := splitAtT_bd (l.length : Int)
 have hsl_ := splitAtT_le (l.length : Int)
 have hpt_ := part_len l
 have hy_ := mem_len h1_ 0
 refine T.sr [(2, (.one (.nil)))] [] ?_
 refine T.seq (T.sg ?_)
 refine TL.rx 1 [(4, (.one (.d (.bss l))))] [] ?_
 refine TL.c (Step.ln 24 1 (.bss l)) ?_
 refine TL.rl [(6, (pB (decide ((l.length : Int) = 0))))] [] ?_
 refine T.ci rfl (fun h1 => ?_) (fun h1 => ?_)
 ·refine T.sg ?_
  have nn2 := sha_len []
  have nn3 := sha_u8 []
  refine TL.c (Step.cz (ok_spec_Sha [] p_38 p_87)) ?_
  refine TL.rl [(2, (.one (.row 1007 [])))] [] ?_
  refine T.ret ?_
  exact p_150
 refine T.skip (T.seq (T.sg ?_))
 refine TL.rx 1 [(8, (.one (.d (.bss l))))] [] ?_
 refine TL.c (Step.ln 24 1 (.bss l)) ?_
 refine TL.rl [(10, (pB (decide ((l.length : Int) = 1))))] [] ?_
 refine T.ci rfl (fun h4 => ?_) (fun h4 => ?_)
 ·refine T.sg ?_
  refine TL.rx 1 [(11, (.one (.d (.bss l))))] [] ?_
  refine TL.c (Step.index (e := 24) (z := 1) (i := 0) rfl rfl (lt_ok rfl) p_6 rfl rfl rfl (lt_ok rfl) rfl p_17 p_39) ?_
  refine TL.c (Step.load (e := (.ints .u8 (l.getD 0 []))) rfl rfl (lt_ok rfl) p_6 rfl rfl) ?_
  have nn5 := leafHash_len (l.getD 0 [])
  have nn6 := leafHash_u8 (l.getD 0 [])
  refine TL.c (Step.cz (ok_spec_LeafHash (l.getD 0 []) p_43 p_0)) ?_
  refine TL.rl [(2, (.one (.row 1014 [])))] [] ?_
  refine T.ret ?_
  exact p_150
 refine T.skip (T.sg ?_)
 refine TL.rx 1 [(15, (.one (.d (.bss l))))] [] ?_
 refine TL.c (Step.ln 24 1 (.bss l)) ?_
 have nn7 := splitAtT_bd (l.length : Int)
 refine TL.c (Step.cz (ok_spec_SplitAt (l.length : Int) p_0)) ?_
 refine TL.rl [(3, (pI (ag (l.length : Int))))] [] ?_
 refine T.seq ?_
 have nn8 := treeRoot_len ((l.drop 0).take ((ag (l.length : Int)).toNat - 0))
 have nn9 := treeRoot_u8 ((l.drop 0).take ((ag (l.length : Int)).toNat - 0))
 have nn10 := treeRoot_len ((l.drop (ag (l.length : Int)).toNat).take (l.length - (ag (l.length : Int)).toNat))
 have nn11 := treeRoot_u8 ((l.drop (ag (l.length : Int)).toNat).take (l.length - (ag (l.length : Int)).toNat))
 have nn12 := nodeHash_len (aj ((l.drop 0).take ((ag (l.length : Int)).toNat - 0))) (aj ((l.drop (ag (l.length : Int)).toNat).take (l.length - (ag (l.length : Int)).toNat)))
 have nn13 := nodeHash_u8 (aj ((l.drop 0).take ((ag (l.length : Int)).toNat - 0))) (aj ((l.drop (ag (l.length : Int)).toNat).take (l.length - (ag (l.length : Int)).toNat)))
 refine T.draw [⟨18, (.one (.d (.bss l))), []⟩, ⟨19, (pI (ag (l.length : Int))), []⟩, ⟨20, (.one (.d (.bss ((l.drop 0).take ((ag (l.length : Int)).toNat - 0))))), []⟩, ⟨21, (.one (.row 1021 [])), [(1021, (5, (.ints .u8 (aj ((l.drop 0).take ((ag (l.length : Int)).toNat - 0))))))]⟩, ⟨22, (.one (.d (.bss l))), []⟩, ⟨23, (pI (ag (l.length : Int))), []⟩, ⟨24, (.one (.d (.bss ((l.drop (ag (l.length : Int)).toNat).take (l.length - (ag (l.length : Int)).toNat))))), []⟩, ⟨25, (.one (.row 1025 [])), [(1025, (5, (.ints .u8 (aj ((l.drop (ag (l.length : Int)).toNat).take (l.length - (ag (l.length : Int)).toNat))))))]⟩, ⟨26, (.one (.row 1026 [])), [(1026, (5, (.ints .u8 (nodeHash (aj ((l.drop 0).take ((ag (l.length : Int)).toNat - 0))) (aj ((l.drop (ag (l.length : Int)).toNat).take (l.length - (ag (l.length : Int)).toNat)))))))]⟩, ⟨2, (.one (.row 1026 [])), []⟩] p_6 p_6 ?_ ?_
 ·refine .cons (fun E A => A.mv 0 18) ?_
  refine .cons (fun E A => A.mv 3 19) ?_
  refine .cons (fun E A => OpStep.plain rfl (Step.slice (e := 24) (z := 1) (l := 0) (h := (ag (l.length : Int)).toNat) (t := 20) rfl rfl p_21 p_6 (A.g 18 rfl) rfl rfl (.none _) ((.some (i := (ag (l.length : Int))) (A.g 19 rfl) p_17)) p_17 p_39 rfl)) ?_
  refine .cons (fun E A => OpStep.plain rfl (Step.call (f := 67) (xs := [.tmp 20]) (ps := [(.one (.d (.bss ((l.drop 0).take ((ag (l.length : Int)).toNat - 0)))))]) false (g := .func 67) (t := 21) rfl rfl p_21 rfl p_6 (evs_cons (A.g 20 rfl) (rfl)) (.cons (.one (.d _)) .nil) (ih ((l.drop 0).take ((ag (l.length : Int)).toNat - 0)).length p_4 ((l.drop 0).take ((ag (l.length : Int)).toNat - 0)) rfl p_88 p_85) (.inr rfl) (At.freshRows A rfl) p_104 rfl)) ?_
  refine .cons (fun E A => A.mv 0 22) ?_
  refine .cons (fun E A => A.mv 3 23) ?_
  refine .cons (fun E A => OpStep.plain rfl (Step.slice (e := 24) (z := 1) (l := (ag (l.length : Int)).toNat) (h := l.length) (t := 24) rfl rfl p_21 p_6 (A.g 22 rfl) rfl rfl ((.some (i := (ag (l.length : Int))) (A.g 23 rfl) p_17)) (.none _) p_17 p_39 rfl)) ?_
  refine .cons (fun E A => OpStep.plain rfl (Step.call (f := 67) (xs := [.tmp 24]) (ps := [(.one (.d (.bss ((l.drop (ag (l.length : Int)).toNat).take (l.length - (ag (l.length : Int)).toNat)))))]) false (g := .func 67) (t := 25) rfl rfl p_21 rfl p_6 (evs_cons (A.g 24 rfl) (rfl)) (.cons (.one (.d _)) .nil) (ih ((l.drop (ag (l.length : Int)).toNat).take (l.length - (ag (l.length : Int)).toNat)).length p_4 ((l.drop (ag (l.length : Int)).toNat).take (l.length - (ag (l.length : Int)).toNat)) rfl p_88 p_85) (.inr rfl) (At.freshRows A rfl) p_104 rfl)) ?_
  refine .cons (fun E A => OpStep.plain rfl (Step.cd (xs := [.tmp 21, .tmp 25]) (ps := [(.one (.row 1021 [])), (.one (.row 1025 []))]) (g := .func 108) false 26 (evs_cons (A.g 21 rfl) (evs_cons (A.g 25 rfl) (rfl))) (.cons (.one (.row rfl (by exact (A.row 1021 (by kernel_rfl)).trans rfl) rfl rfl)) (.cons (.one (.row rfl (by exact (A.row 1025 (by kernel_rfl)).trans rfl) rfl rfl)) .nil)) (ok_spec_NodeHash (aj ((l.drop 0).take ((ag (l.length : Int)).toNat - 0))) (aj ((l.drop (ag (l.length : Int)).toNat).take (l.length - (ag (l.length : Int)).toNat))) p_43 p_43 p_0 p_0) (At.freshRows A rfl))) ?_
  refine .cons (fun E A => A.as 26 2) ?_
  exact .nil _ _
 refine TL.nil (T.ret ?_)
 exact p_150
theorem ok_spec_TreeRoot (l : List (List Int)) (h0_ : ∀ y ∈ l, U8s y) (h1_ : ∀ y ∈ l, y.length ≤ 1048576) : RO Tryz.prog 67 [.one (.bss l)] [(false, [.own 5 (.ints .u8 (aj l))])] := ok_spec_TreeRoot_r _ l rfl h0_ h1_
theorem ok_spec_l14Get (b : List Int) (s : SRS) (l : SLimits) (h0_ : U8s b) (h1_ : b.length ≤ 1048576) (h2_ : s.f1 = 0 → limOk l = true) : BX Tryz.prog 21 [.bx, .rd (.agg [(.int .i64 l.f0), (.int .i64 l.f1), (.int .i64 l.f2), (.int .i64 l.f3), (.int .i64 l.f4)])] 62 [.rd (.ints .u8 b), .rd (.int .i64 s.f0), .rd (.int .i64 s.f1)] [.rd (.ints .u8 b), .rd (.int .i64 (am l b s).1.f0), .rd (.int .i64 (am l b s).1.f1)] [(true, [.rd (.int .i64 (am l b s).2.f0.f0), .rd (.int .i64 (am l b s).2.f0.f1), .rd (.int .i64 (am l b s).2.f0.f2), .own 5 (.ints .u8 (am l b s).2.f0.f3), .own 5 (.ints .u8 (am l b s).2.f0.f4), .rd (.int .i64 (am l b s).2.f0.f5.f0), .rd (.int .i64 (am l b s).2.f0.f5.f1), .own 5 (.ints .u8 (am l b s).2.f0.f5.f2), .own 5 (.ints .u8 (am l b s).2.f0.f5.f3), .own 24 (.bss (am l b s).2.f0.f5.f4), .own 24 (.bss (am l b s).2.f1)])] := by
 refine BX.intro Tryz.func21 rfl 57 rfl (le_ok rfl) (le_ok rfl) fun w Z IX pin hp => ?_
 have hb1_ := @ay b h0_ (af l b s).1
 have hb2_ : (rdB2 l b s).2 = (ab b (af l b s).1).2 := rfl
 have hb3_ : (ai b (af l b s).1 (l.f2 + 1) 3).2 = (rdB2 l b s).2 := rfl
 have hho_ := @rdHead_ok l b s h0_
 have hr4_ := hho_.2.2.2.2.1
 refine T.sr [(3, (.one (.ptr 3 0))), (4, (.one (.ptr 4 0)))] [(3, (46, (c_3 l))), (4, (33, c_19))] ?_
 refine T.sg ?_
 refine TL.rx 2 [(8, (.one (.ptr 800 0))), (9, (.agg (c_3 l)))] [] ?_
 have nn1 := @rdHead_sm l b s p_60
 have nn2 := @rdHead_ok l b s p_3
 refine TL.c (Step.x2 800 (ok_spec_l13Get b s l p_3 p_0)) ?_
 refine TL.rl [(5, (.one (.ptr 5 0)))] [(5, (33, (c_37 b l s)))] ?_
 refine T.sg ?_
 refine TL.rx 1 [(12, (.one (.ptr 800 0)))] [] ?_
 have nn3 := @ay b p_3 (af l b s).1
 refine TL.c (Step.x2 800 (ok_spec_l11Var b (af l b s).1 p_3 p_0)) ?_
 refine TL.rl [(6, (pI (ab b (af l b s).1).2))] [] ?_
 refine T.sg ?_
 refine TL.rx 5 [(14, (.one (.ptr 800 0))), (18, (pB (decide (l.f2 < (ab b (af l b s).1).2))))] [] ?_
 refine TL.c (Step.x2 800 (ok_spec_l11Fail (decide ((ab b (af l b s).1).2 < l.f2 + 1)) b (ab b (af l b s).1).1 (decide (l.f2 < (ab b (af l b s).1).2)) 3 p_3 p_0 p_15)) ?_
 refine TL.nil (T.seq ?_)
 refine T.sr [(7, (pI 0))] [] ?_
 refine T.block ?_
 refine T.nilrow 5 10 100510 24 33 (.bss []) (c_37 b l s) rfl rfl rfl (fun x hx => by have := hp x hx; omega) rfl rfl trivial ?_
 refine T.loop (ι := Nat × SRS × (List (List Int))) (fun xx_ => { tm := [(0, (.one (.ptr 800 0))), (3, (.one (.ptr 3 0))), (4, (.one (.ptr 4 0))), (5, (.one (.ptr 5 0))), (6, (pI (ab b (af l b s).1).2)), (7, (pI ((xx_.1) : Int)))], rows := [(7010, (5, (.ints .u8 (af l b s).2.f3))), (8010, (5, (.ints .u8 (af l b s).2.f4))), (11010, (5, (.ints .u8 (af l b s).2.f5.f2))), (12010, (5, (.ints .u8 (af l b s).2.f5.f3))), (13010, (24, (.bss (af l b s).2.f5.f4))), (100510, (24, (.bss (xx_.2.2))))], boxes := [(800, (62, [cS b, cI (xx_.2.1).f0, cI (xx_.2.1).f1])), (3, (46, (c_3 l))), (4, (33, c_19)), (5, (33, (c_4 b l s)))] }) (fun xx_ => ((xx_.1) : Int) ≤ (rdB2 l b s).2 ∧ ((xx_.2.1).f1 = 0 → (rdB2 l b s).2 ≤ 8) ∧ (xx_.2.2).length = (xx_.1) ∧ (∀ y ∈ (xx_.2.2), U8s y) ∧ (∀ y ∈ (xx_.2.2), y.length ≤ 1048576) ∧ rdTx l b ((rdB2 l b s).2.toNat - (xx_.1)) (xx_.2.1) (xx_.2.2) = rdTx l b (rdB2 l b s).2.toNat (rdB2 l b s).1 []) (fun xx_ => (rdB2 l b s).2.toNat - (xx_.1)) (0, (rdB2 l b s).1, []) ?_ ?_ ?_
 · refine Env.le_mk ⟨rfl, rfl, rfl, rfl, rfl, ?_, trivial⟩ ⟨rfl, rfl, rfl, rfl, rfl, ?_, trivial⟩ ⟨?_, rfl, rfl, rfl, trivial⟩ <;> exact p_22
 · (dsimp only; exact ⟨by omega, fun h_ => rdB2_z (h2_) h_, rfl, (fun y hy => by cases hy), (fun y hy => by cases hy), rfl⟩)
 intro xx_ hx
 obtain ⟨i, q, ts⟩ := xx_
 try dsimp only at hx ⊢
 obtain ⟨hx1, hx2, hx3, hx5, hx6, hx4⟩ := hx
 refine T.seq (T.sg ?_)
 refine TL.rx 4 [(23, (pB (decide ((i : Int) < (ab b (af l b s).1).2))))] [] ?_
 rcases Bool.eq_false_or_eq_true (decide ((i : Int) < (ab b (af l b s).1).2)) with hb4 | hb4
 ·refine TL.known 23 hb4 rfl ?_
  have hb4' := hb4
  replace hb4' := of_decide_eq_true hb4'
  refine TL.rl [(29, (pB (decide (q.f1 = 0))))] [] ?_
  refine T.ci rfl (fun h5 => ?_) (fun h5 => ?_)
  ·refine T.skip (T.seq (T.block ?_))
   have nn6 := rdText_len b q l.f1
   refine T.drawX [{ dst := some 32, pv := (.one (.ptr 5 10)) }, { dst := some 33, pv := (.one (.row 100510 [])) }, { dst := some 34, pv := (.one (.ptr 800 0)) }, { dst := some 35, pv := (.one (.ptr 3 1)) }, { dst := some 36, pv := (pI l.f1) }, { dst := some 37, pv := (.one (.row 4037 [])), rows := [(4037, (5, (.ints .u8 (rdText b q l.f1).2)))], box := some (800, (62, (c_76 b l q))) }, { dst := some 38, pv := (.one (.row 38 [])), rows := [(38, (24, (.bss [(rdText b q l.f1).2])))], dead := [4037] }, { dst := some 39, pv := (.one (.row 500039 [])), rows := [(500039, (24, (.bss (ts ++ [(rdText b q l.f1).2]))))], dead := [100510, 38] }, { dst := some 40, pv := (.one (.ptr 5 10)) }, { box := some (5, (33, (c_55 b l s))) }] p_6 p_6 ?_ ?_
   ·refine .sk 5 ?_
    refine .cons (fun E A => OpStep.plain rfl (Step.callXX2 (b := 800) (xs := [.tmp 34, .tmp 36]) (ps := [(.one (.ptr 800 0)), (pI l.f1)]) (bps := (c_72 b q)) (ss := []) (g := .func 65) (t := 37) (ok_spec_l11Text b q l.f1 p_3 p_0) rfl rfl p_21 rfl p_6 (evs_cons (A.g 34) (evs_cons (A.g 36) (rfl))) (.cons (.bx) (.cons (.rd (.one (.d _))) .nil)) (A.b 800 (x := (62, _))) (.rd (.rd (.rd .nil))) rfl (handX_fresh (fun x_ hx_ => A.fresh x_ (by exact hx_))) (fun x hx => by have := hp x hx; omega) rfl p_109)) ?_
    refine .cons (fun E A => OpStep.plain rfl (Step.litX (e := 24) (z := 1) (by_ := 24) (xs := [.tmp 37]) (pss := [[.row 4037 []]]) (es := [(.ints .u8 (rdText b q l.f1).2)]) (ss := [4037]) (d := (.bss [(rdText b q l.f1).2])) (t := 38) rfl rfl p_21 p_6 rfl rfl (.cons (by exact (congrArg PV.flat (A.g 37 (p := (.one (.row 4037 []))))).trans rfl) .nil) p_104 (le_ok rfl) (le_ok rfl) A.fn (.row (A.r 4037 (x := (5, _))) p_104 .nil) (A.fresh _ (List.mem_singleton.2 rfl)) p_104 (fun x_ hx_ => by have := hp x_ hx_; omega) rfl trivial rfl rfl)) ?_
    refine .cons (fun E A => OpStep.plain rfl (Step.appendX (e := 24) (z := 1) (by_ := 24) (d := (.bss ts)) (dy := (.bss [(rdText b q l.f1).2])) (d' := (.bss (ts ++ [(rdText b q l.f1).2]))) (ss := [38]) 500039 (t := 39) rfl rfl p_21 p_6 (A.g 33) (A.r 100510 (x := (24, _))) rfl (lt_ok rfl) (A.g 38) (.move (A.r 38 (x := (24, _)))) p_104 rfl p_19 p_19 (fun x_ hx_ => by have := hp x_ hx_; omega) (A.fresh _ (List.mem_singleton.2 rfl)) p_104 (fun x_ hx_ => by have := hp x_ hx_; omega))) ?_
    refine .sk 2 ?_
    exact .nil _ _
   refine TL.wk [(0, (.one (.ptr 800 0))), (3, (.one (.ptr 3 0))), (4, (.one (.ptr 4 0))), (5, (.one (.ptr 5 0))), (6, (pI (ab b (af l b s).1).2)), (7, (pI (i : Int)))] [(7010, (5, (.ints .u8 (af l b s).2.f3))), (8010, (5, (.ints .u8 (af l b s).2.f4))), (11010, (5, (.ints .u8 (af l b s).2.f5.f2))), (12010, (5, (.ints .u8 (af l b s).2.f5.f3))), (13010, (24, (.bss (af l b s).2.f5.f4))), (500039, (24, (.bss (ts ++ [(rdText b q l.f1).2]))))] [(800, (62, (c_76 b l q))), (3, (46, (c_3 l))), (4, (33, c_19)), (5, (33, (c_55 b l s)))] ?_
   refine TL.ren 500039 100510 rfl (fun x hx => by have := hp x hx; omega) ?_
   refine TL.nil (T.region ?_)
   refine TL.rx 1 [(30, (pI (i : Int)))] [] ?_
   refine TL.ad ((i : Int) + 1) ?_
   refine TL.rl [(7, (pI ((i : Int) + 1)))] [] ?_
   refine ⟨(i + 1, (rdText b q l.f1).1, (ts ++ [(rdText b q l.f1).2])), by (try dsimp only); (refine ⟨by omega, fun _ => by omega, by simp only [List.length_append, List.length_cons, List.length_nil]; first | done | omega, mem_snoc hx5 (rdText_u8 h0_ q l.f1), mem_snoc hx6 (Nat.le_trans (rdText_len b q l.f1) h1_), ?_⟩; exact (rdTx_next p_4 p_4).symm.trans hx4), by (dsimp only; omega), Env.le_mk ⟨rfl, rfl, rfl, rfl, rfl, ?_, trivial⟩ ⟨rfl, rfl, rfl, rfl, rfl, ?_, trivial⟩ ⟨?_, rfl, rfl, rfl, trivial⟩⟩ <;> exact p_22
  refine T.exit (T.seq ?_)
  refine T.sr [(45, (pB (decide (q.f1 = 0))))] [] ?_
  refine T.ci rfl (fun h7 => ?_) (fun h7 => ?_)
  ·have nn8 := treeRoot_len ts
   have nn9 := treeRoot_u8 ts
   refine T.drawX [{ dst := some 46, pv := (.one (.ptr 800 0)) }, { dst := some 47, pv := (.one (.ptr 5 0)) }, { dst := some 48, pv := (.one (.ptr 5 4)) }, { dst := some 49, pv := (.one (.row 8010 [])) }, { dst := some 50, pv := (.one (.ptr 5 10)) }, { dst := some 51, pv := (.one (.row 100510 [])) }, { dst := some 52, pv := (.one (.row 1052 [])), rows := [(1052, (5, (.ints .u8 (aj ts))))] }, { dst := some 53, pv := (pB (decide ((af l b s).2.f4 = (aj ts)))) }, { dst := some 54, pv := (pB (!(decide ((af l b s).2.f4 = (aj ts))))) }, { dst := some 55, pv := (.tup []), box := some (800, (62, (c_25 b l q s ts))) }] p_6 p_6 ?_ ?_
   ·refine .sk 6 ?_
    refine .cons (fun E A => OpStep.plain rfl (Step.call (f := 67) (xs := [.tmp 51]) (ps := [(.one (.row 100510 []))]) false (g := .func 67) (t := 52) rfl rfl p_21 rfl p_6 (evs_cons (A.g 51) (rfl)) (.cons (.one (.row rfl (A.r 100510 (x := (24, _))) rfl rfl)) .nil) (ok_spec_TreeRoot ts p_88 p_85) (.inr rfl) (AtX.frs A) (fun x hx => by have := hp x hx; omega) rfl)) ?_
    refine .cons (fun E A => OpStep.plain rfl (Step.call (f := 66) (xs := [.tmp 49, .tmp 52]) (ps := [(.one (.row 8010 [])), (.one (.row 1052 []))]) false (g := .func 66) (t := 53) rfl rfl p_21 rfl p_6 (evs_cons (A.g 49) (evs_cons (A.g 52) (rfl))) (.cons (.one (.row rfl (A.r 8010 (x := (5, _))) rfl rfl)) (.cons (.one (.row rfl (A.r 1052 (x := (5, _))) rfl rfl)) .nil)) (ok_spec_SameBytes (af l b s).2.f4 (aj ts) p_106 p_106) (.inr rfl) (AtX.frs A) (fun x hx => by have := hp x hx; omega) rfl)) ?_
    refine .sk 1 ?_
    refine .cons (fun E A => OpStep.plain rfl (Step.callXX2 (b := 800) (xs := [.tmp 46, .tmp 54, .const (.int .i64 7)]) (ps := [(.one (.ptr 800 0)), (pB (!(decide ((af l b s).2.f4 = (aj ts))))), (pI 7)]) (bps := (c_72 b q)) (ss := []) (g := .func 25) (t := 55) (ok_spec_l11Fail (decide ((af l b s).2.f4 = (aj ts))) b q (!(decide ((af l b s).2.f4 = (aj ts)))) 7 p_3 p_0 p_15) rfl rfl p_21 rfl p_6 (evs_cons (A.g 46) (evs_cons (A.g 54) (evs_cons rfl (rfl)))) (.cons (.bx) (.cons (.rd (.one (.d _))) (.cons (.rd (.one (.d _))) .nil))) (A.b 800 (x := (62, _))) (.rd (.rd (.rd .nil))) rfl (handX_fresh (fun x_ hx_ => A.fresh x_ (by exact hx_))) (fun x hx => by have := hp x hx; omega) rfl p_109)) ?_
    exact .nil _ _
   refine TL.wk [(4, (.one (.ptr 4 0))), (5, (.one (.ptr 5 0)))] [(7010, (5, (.ints .u8 (af l b s).2.f3))), (8010, (5, (.ints .u8 (af l b s).2.f4))), (11010, (5, (.ints .u8 (af l b s).2.f5.f2))), (12010, (5, (.ints .u8 (af l b s).2.f5.f3))), (13010, (24, (.bss (af l b s).2.f5.f4))), (100510, (24, (.bss ts))), (1052, (5, (.ints .u8 (aj ts))))] [(800, (62, (c_25 b l q s ts))), (3, (46, (c_3 l))), (4, (33, c_19)), (5, (33, (c_4 b l s)))] ?_
   refine TL.nil ?_
   refine T.sr [] [(4, (33, (c_4 b l s)))] ?_
   refine T.ret ?_
   exact p_132
  refine T.skip ?_
  refine T.sr [] [(4, (33, (c_4 b l s)))] ?_
  refine T.ret ?_
  exact p_132
 refine TL.known 23 hb4 rfl ?_
 have hb4' := hb4
 replace hb4' := of_decide_eq_false hb4'
 refine TL.rl [(29, (pB false))] [] ?_
 refine T.cf (T.exit (T.seq ?_))
 refine T.sr [(45, (pB (decide (q.f1 = 0))))] [] ?_
 refine T.ci rfl (fun h10 => ?_) (fun h10 => ?_)
 ·have nn11 := treeRoot_len ts
  have nn12 := treeRoot_u8 ts
  refine T.drawX [{ dst := some 46, pv := (.one (.ptr 800 0)) }, { dst := some 47, pv := (.one (.ptr 5 0)) }, { dst := some 48, pv := (.one (.ptr 5 4)) }, { dst := some 49, pv := (.one (.row 8010 [])) }, { dst := some 50, pv := (.one (.ptr 5 10)) }, { dst := some 51, pv := (.one (.row 100510 [])) }, { dst := some 52, pv := (.one (.row 1052 [])), rows := [(1052, (5, (.ints .u8 (aj ts))))] }, { dst := some 53, pv := (pB (decide ((af l b s).2.f4 = (aj ts)))) }, { dst := some 54, pv := (pB (!(decide ((af l b s).2.f4 = (aj ts))))) }, { dst := some 55, pv := (.tup []), box := some (800, (62, (c_25 b l q s ts))) }] p_6 p_6 ?_ ?_
  ·refine .sk 6 ?_
   refine .cons (fun E A => OpStep.plain rfl (Step.call (f := 67) (xs := [.tmp 51]) (ps := [(.one (.row 100510 []))]) false (g := .func 67) (t := 52) rfl rfl p_21 rfl p_6 (evs_cons (A.g 51) (rfl)) (.cons (.one (.row rfl (A.r 100510 (x := (24, _))) rfl rfl)) .nil) (ok_spec_TreeRoot ts p_88 p_85) (.inr rfl) (AtX.frs A) (fun x hx => by have := hp x hx; omega) rfl)) ?_
   refine .cons (fun E A => OpStep.plain rfl (Step.call (f := 66) (xs := [.tmp 49, .tmp 52]) (ps := [(.one (.row 8010 [])), (.one (.row 1052 []))]) false (g := .func 66) (t := 53) rfl rfl p_21 rfl p_6 (evs_cons (A.g 49) (evs_cons (A.g 52) (rfl))) (.cons (.one (.row rfl (A.r 8010 (x := (5, _))) rfl rfl)) (.cons (.one (.row rfl (A.r 1052 (x := (5, _))) rfl rfl)) .nil)) (ok_spec_SameBytes (af l b s).2.f4 (aj ts) p_106 p_106) (.inr rfl) (AtX.frs A) (fun x hx => by have := hp x hx; omega) rfl)) ?_
   refine .sk 1 ?_
   refine .cons (fun E A => OpStep.plain rfl (Step.callXX2 (b := 800) (xs := [.tmp 46, .tmp 54, .const (.int .i64 7)]) (ps := [(.one (.ptr 800 0)), (pB (!(decide ((af l b s).2.f4 = (aj ts))))), (pI 7)]) (bps := (c_72 b q)) (ss := []) (g := .func 25) (t := 55) (ok_spec_l11Fail (decide ((af l b s).2.f4 = (aj ts))) b q (!(decide ((af l b s).2.f4 = (aj ts)))) 7 p_3 p_0 p_15) rfl rfl p_21 rfl p_6 (evs_cons (A.g 46) (evs_cons (A.g 54) (evs_cons rfl (rfl)))) (.cons (.bx) (.cons (.rd (.one (.d _))) (.cons (.rd (.one (.d _))) .nil))) (A.b 800 (x := (62, _))) (.rd (.rd (.rd .nil))) rfl (handX_fresh (fun x_ hx_ => A.fresh x_ (by exact hx_))) (fun x hx => by have := hp x hx; omega) rfl p_109)) ?_
   exact .nil _ _
  refine TL.wk [(4, (.one (.ptr 4 0))), (5, (.one (.ptr 5 0)))] [(7010, (5, (.ints .u8 (af l b s).2.f3))), (8010, (5, (.ints .u8 (af l b s).2.f4))), (11010, (5, (.ints .u8 (af l b s).2.f5.f2))), (12010, (5, (.ints .u8 (af l b s).2.f5.f3))), (13010, (24, (.bss (af l b s).2.f5.f4))), (100510, (24, (.bss ts))), (1052, (5, (.ints .u8 (aj ts))))] [(800, (62, (c_25 b l q s ts))), (3, (46, (c_3 l))), (4, (33, c_19)), (5, (33, (c_4 b l s)))] ?_
  refine TL.nil ?_
  refine T.sr [] [(4, (33, (c_4 b l s)))] ?_
  refine T.ret ?_
  exact p_132
 refine T.skip ?_
 refine T.sr [] [(4, (33, (c_4 b l s)))] ?_
 refine T.ret ?_
 exact p_132
theorem ok_spec_l15Get (b : List Int) (s : SRS) (l : SLimits) (h0_ : U8s b) (h1_ : b.length ≤ 1048576) (h2_ : s.f1 = 0 → limOk l = true) : BX Tryz.prog 22 [.bx, .rd (.agg [(.int .i64 l.f0), (.int .i64 l.f1), (.int .i64 l.f2), (.int .i64 l.f3), (.int .i64 l.f4)])] 62 [.rd (.ints .u8 b), .rd (.int .i64 s.f0), .rd (.int .i64 s.f1)] [.rd (.ints .u8 b), .rd (.int .i64 (rdTc l b s).1.f0), .rd (.int .i64 (rdTc l b s).1.f1)] [(true, [.rd (.int .i64 (rdTc l b s).2.f0), .own 111 (.sl 3 ((rdTc l b s).2.f1.map SEntry.cells))])] := by
 refine BX.intro Tryz.func22 rfl 71 rfl (le_ok rfl) (le_ok rfl) fun w Z IX pin hp => ?_
 have hb1_ := @ay b h0_ (ab b s).1
 have hb2_ : (rdTc1 l b s).2 = (ab b (ab b s).1).2 := rfl
 have hb3_ : (ai b (ab b s).1 (l.f0 + 1) 3).2 = (rdTc1 l b s).2 := rfl
 refine T.sr [(3, (.one (.ptr 3 0))), (4, (.one (.ptr 4 0)))] [(3, (46, (c_3 l))), (4, (36, [cI 0, .nil]))] ?_
 refine T.sg ?_
 refine TL.rx 1 [(10, (.one (.ptr 800 0)))] [] ?_
 have nn1 := @ay b p_3 s
 refine TL.c (Step.x2 800 (ok_spec_l11Var b s p_3 p_0)) ?_
 refine TL.rl [(5, (.one (.ptr 5 0)))] [(5, (36, [cI (ab b s).2, .nil]))] ?_
 refine T.sg ?_
 refine TL.rx 1 [(13, (.one (.ptr 800 0)))] [] ?_
 have nn2 := @ay b p_3 (ab b s).1
 refine TL.c (Step.x2 800 (ok_spec_l11Var b (ab b s).1 p_3 p_0)) ?_
 refine TL.rl [(6, (pI (ab b (ab b s).1).2))] [] ?_
 refine T.sg ?_
 refine TL.rx 5 [(15, (.one (.ptr 800 0))), (19, (pB (decide (l.f0 < (ab b (ab b s).1).2))))] [] ?_
 refine TL.c (Step.x2 800 (ok_spec_l11Fail (decide ((ab b (ab b s).1).2 < l.f0 + 1)) b (ab b (ab b s).1).1 (decide (l.f0 < (ab b (ab b s).1).2)) 3 p_3 p_0 p_15)) ?_
 refine TL.nil ?_
 refine T.sr [(7, (pI (-1)))] [] ?_
 refine T.seq ?_
 refine T.sr [(8, (pI 0))] [] ?_
 refine T.block ?_
 refine T.nilrow 5 1 100501 111 36 (.sl 3 []) [cI (ab b s).2, .nil] rfl rfl rfl (fun x hx => by have := hp x hx; omega) rfl rfl (D.wf_nil _) ?_
 refine T.loop (ι := Nat × SRS × Int × (List SEntry)) (fun xx_ => { tm := [(0, (.one (.ptr 800 0))), (3, (.one (.ptr 3 0))), (4, (.one (.ptr 4 0))), (5, (.one (.ptr 5 0))), (6, (pI (ab b (ab b s).1).2)), (8, (pI ((xx_.1) : Int))), (7, (pI (xx_.2.2.1)))], rows := [(100501, (111, (.sl 3 ((xx_.2.2.2).map SEntry.cells))))], boxes := [(800, (62, [cS b, cI (xx_.2.1).f0, cI (xx_.2.1).f1])), (3, (46, (c_3 l))), (4, (36, [cI 0, .nil])), (5, (36, (c_71 b s)))] }) (fun xx_ => ((xx_.1) : Int) ≤ (rdTc1 l b s).2 ∧ ((xx_.2.1).f1 = 0 → (rdTc1 l b s).2 ≤ 10) ∧ (xx_.2.2.2).length = (xx_.1) ∧ rdEs l b (ab b s).2 ((rdTc1 l b s).2.toNat - (xx_.1)) (xx_.2.1) (xx_.2.2.1) (xx_.2.2.2) = rdEs l b (ab b s).2 (rdTc1 l b s).2.toNat (rdTc1 l b s).1 (-1) []) (fun xx_ => ((rdTc1 l b s).2).toNat - (xx_.1)) (0, (ac (ab b (ab b s).1).1 (decide ((ab b (ab b s).1).2 < l.f0 + 1)) 3), (-1), []) ?_ ?_ ?_
 · refine Env.le_mk ⟨rfl, rfl, rfl, rfl, rfl, ?_, ?_, trivial⟩ ⟨?_, trivial⟩ ⟨?_, rfl, rfl, rfl, trivial⟩ <;> exact p_22
 · (dsimp only; refine ⟨by omega, fun h_ => by first | exact rdTc1_z h2_ h_ | omega, rfl, rfl⟩)
 intro xx_ hx
 obtain ⟨i, q, la, es⟩ := xx_
 try dsimp only at hx ⊢
 obtain ⟨hx1, hx2, hx3, hx4⟩ := hx
 refine T.seq (T.sg ?_)
 refine TL.rx 4 [(24, (pB (decide ((i : Int) < (ab b (ab b s).1).2))))] [] ?_
 rcases Bool.eq_false_or_eq_true (decide ((i : Int) < (ab b (ab b s).1).2)) with hb3 | hb3
 ·refine TL.known 24 hb3 rfl ?_
  have hb3' := hb3
  replace hb3' := of_decide_eq_true hb3'
  refine TL.rl [(30, (pB (decide (q.f1 = 0))))] [] ?_
  refine T.ci rfl (fun h4 => ?_) (fun h4 => ?_)
  ·refine T.skip (T.seq (T.block (T.sg ?_)))
   refine TL.rx 1 [(33, (.one (.ptr 800 0)))] [] ?_
   have nn5 := @ay b p_3 q
   refine TL.c (Step.x2 800 (ok_spec_l11Var b q p_3 p_0)) ?_
   refine TL.rl [(9, (.one (.ptr 9 0)))] [(9, (111, [cI (ab b q).2, cI 0, .nil]))] ?_
   refine T.sg ?_
   refine TL.rx 6 [(36, (.one (.ptr 800 0))), (41, (pB (decide (l.f0 ≤ (ab b q).2))))] [] ?_
   refine TL.c (Step.x2 800 (ok_spec_l11Fail (decide ((ab b q).2 < l.f0)) b (ab b q).1 (decide (l.f0 ≤ (ab b q).2)) 5 p_3 p_0 p_15)) ?_
   refine TL.nil (T.sg ?_)
   refine TL.rx 5 [(43, (.one (.ptr 800 0))), (47, (pB (decide ((ab b q).2 ≤ la))))] [] ?_
   refine TL.c (Step.x2 800 (ok_spec_l11Fail (decide (la < (ab b q).2)) b (ac (ab b q).1 (decide ((ab b q).2 < l.f0)) 5) (decide ((ab b q).2 ≤ la)) 6 p_3 p_0 p_15)) ?_
   refine TL.nil ?_
   refine T.sr [(7, (pI (ab b q).2))] [] ?_
   refine T.sg ?_
   refine TL.rx 1 [(51, (.one (.ptr 800 0)))] [] ?_
   have nn6 := @ay b p_3 (ac (ac (ab b q).1 (decide ((ab b q).2 < l.f0)) 5) (decide (la < (ab b q).2)) 6)
   refine TL.c (Step.x2 800 (ok_spec_l11Var b (ac (ac (ab b q).1 (decide ((ab b q).2 < l.f0)) 5) (decide (la < (ab b q).2)) 6) p_3 p_0)) ?_
   refine TL.rl [] [(9, (111, [cI (ab b q).2, cI (ab b (ac (ac (ab b q).1 (decide ((ab b q).2 < l.f0)) 5) (decide (la < (ab b q).2)) 6)).2, .nil]))] ?_
   refine T.sg ?_
   refine TL.rx 6 [(54, (.one (.ptr 800 0))), (59, (pB (decide ((ab b s).2 ≤ (ab b (ac (ac (ab b q).1 (decide ((ab b q).2 < l.f0)) 5) (decide (la < (ab b q).2)) 6)).2))))] [] ?_
   refine TL.c (Step.x2 800 (ok_spec_l11Fail (decide ((ab b (ac (ac (ab b q).1 (decide ((ab b q).2 < l.f0)) 5) (decide (la < (ab b q).2)) 6)).2 < (ab b s).2)) b (ab b (ac (ac (ab b q).1 (decide ((ab b q).2 < l.f0)) 5) (decide (la < (ab b q).2)) 6)).1 (decide ((ab b s).2 ≤ (ab b (ac (ac (ab b q).1 (decide ((ab b q).2 < l.f0)) 5) (decide (la < (ab b q).2)) 6)).2)) 6 p_3 p_0 p_15)) ?_
   refine TL.nil (T.sg ?_)
   refine TL.rx 1 [(61, (.one (.ptr 800 0)))] [] ?_
   have nn7 := rdRaw_len b (ac (ab b (ac (ac (ab b q).1 (decide ((ab b q).2 < l.f0)) 5) (decide (la < (ab b q).2)) 6)).1 (decide ((ab b (ac (ac (ab b q).1 (decide ((ab b q).2 < l.f0)) 5) (decide (la < (ab b q).2)) 6)).2 < (ab b s).2)) 6) 32
   refine TL.c (Step.x2 800 (ok_spec_l11Raw b (ac (ab b (ac (ac (ab b q).1 (decide ((ab b q).2 < l.f0)) 5) (decide (la < (ab b q).2)) 6)).1 (decide ((ab b (ac (ac (ab b q).1 (decide ((ab b q).2 < l.f0)) 5) (decide (la < (ab b q).2)) 6)).2 < (ab b s).2)) 6) p_3 p_0)) ?_
   refine TL.rl [] [(9, (111, (c_52 b l la q)))] ?_
   refine T.region ?_
   refine TL.rx 3 [(65, (.one (.row 100501 []))), (66, (.agg (c_52 b l la q)))] [] ?_
   refine TL.c (Step.lit (e := 111) (z := 3) (by_ := 40) (xs := [.tmp 66]) (pss := [(c_52 b l la q)]) (es := [(.int .i64 (ab b q).2), (.int .i64 (ab b (ac (ac (ab b q).1 (decide ((ab b q).2 < l.f0)) 5) (decide (la < (ab b q).2)) 6)).2), (.ints .u8 (ae b (ac (ab b (ac (ac (ab b q).1 (decide ((ab b q).2 < l.f0)) 5) (decide (la < (ab b q).2)) 6)).1 (decide ((ab b (ac (ac (ab b q).1 (decide ((ab b q).2 < l.f0)) 5) (decide (la < (ab b q).2)) 6)).2 < (ab b s).2)) 6) 32).2)]) (ss := [4062]) (d := (.sl 3 ([(⟨(ab b q).2, (ab b (ac (ac (ab b q).1 (decide ((ab b q).2 < l.f0)) 5) (decide (la < (ab b q).2)) 6)).2, (ae b (ac (ab b (ac (ac (ab b q).1 (decide ((ab b q).2 < l.f0)) 5) (decide (la < (ab b q).2)) 6)).1 (decide ((ab b (ac (ac (ab b q).1 (decide ((ab b q).2 < l.f0)) 5) (decide (la < (ab b q).2)) 6)).2 < (ab b s).2)) 6) 32).2⟩ : SEntry)].map SEntry.cells))) rfl rfl (lt_ok rfl) p_6 rfl rfl (.cons rfl .nil) p_104 (le_ok rfl) (le_ok rfl) rfl (.val rfl (.val rfl (.row rfl p_104 .nil))) rfl p_104 (fun x hx => by have := hp x hx; omega) rfl (wf_map SEntry.len _) rfl rfl) ?_
   refine TL.c (Step.ap 111 3 40 (.sl 3 ([(⟨(ab b q).2, (ab b (ac (ac (ab b q).1 (decide ((ab b q).2 < l.f0)) 5) (decide (la < (ab b q).2)) 6)).2, (ae b (ac (ab b (ac (ac (ab b q).1 (decide ((ab b q).2 < l.f0)) 5) (decide (la < (ab b q).2)) 6)).1 (decide ((ab b (ac (ac (ab b q).1 (decide ((ab b q).2 < l.f0)) 5) (decide (la < (ab b q).2)) 6)).2 < (ab b s).2)) 6) 32).2⟩ : SEntry)].map SEntry.cells)) (.sl 3 ((es ++ [(⟨(ab b q).2, (ab b (ac (ac (ab b q).1 (decide ((ab b q).2 < l.f0)) 5) (decide (la < (ab b q).2)) 6)).2, (ae b (ac (ab b (ac (ac (ab b q).1 (decide ((ab b q).2 < l.f0)) 5) (decide (la < (ab b q).2)) 6)).1 (decide ((ab b (ac (ac (ab b q).1 (decide ((ab b q).2 < l.f0)) 5) (decide (la < (ab b q).2)) 6)).2 < (ab b s).2)) 6) 32).2⟩ : SEntry)]).map SEntry.cells)) (.move rfl)) ?_
   refine TL.rl [] [(5, (36, (c_71 b s)))] ?_
   refine T.region ?_
   refine TL.rx 1 [(31, (pI (i : Int)))] [] ?_
   refine TL.ad ((i : Int) + 1) ?_
   refine TL.rl [(8, (pI ((i : Int) + 1)))] [] ?_
   refine ⟨(i + 1, (ae b (ac (ab b (ac (ac (ab b q).1 (decide ((ab b q).2 < l.f0)) 5) (decide (la < (ab b q).2)) 6)).1 (decide ((ab b (ac (ac (ab b q).1 (decide ((ab b q).2 < l.f0)) 5) (decide (la < (ab b q).2)) 6)).2 < (ab b s).2)) 6) 32).1, (ab b q).2, (es ++ [(⟨(ab b q).2, (ab b (ac (ac (ab b q).1 (decide ((ab b q).2 < l.f0)) 5) (decide (la < (ab b q).2)) 6)).2, (ae b (ac (ab b (ac (ac (ab b q).1 (decide ((ab b q).2 < l.f0)) 5) (decide (la < (ab b q).2)) 6)).1 (decide ((ab b (ac (ac (ab b q).1 (decide ((ab b q).2 < l.f0)) 5) (decide (la < (ab b q).2)) 6)).2 < (ab b s).2)) 6) 32).2⟩ : SEntry)])), by (try dsimp only); (refine ⟨by omega, fun _ => by omega, by simp only [List.length_append, List.length_cons, List.length_nil]; first | done | omega, ?_⟩; exact (rdEs_next p_4 p_4).symm.trans hx4), by (dsimp only; omega), Env.le_mk ⟨rfl, rfl, rfl, rfl, rfl, ?_, ?_, trivial⟩ ⟨?_, trivial⟩ ⟨?_, rfl, rfl, rfl, trivial⟩⟩ <;> exact p_22
  refine T.exit ?_
  refine T.sr [] [(4, (36, (c_71 b s)))] ?_
  refine T.ret ?_
  exact p_144
 refine TL.known 24 hb3 rfl ?_
 have hb3' := hb3
 replace hb3' := of_decide_eq_false hb3'
 refine TL.rl [(30, (pB false))] [] ?_
 refine T.cf (T.exit ?_)
 refine T.sr [] [(4, (36, (c_71 b s)))] ?_
 refine T.ret ?_
 exact p_144
theorem ok_spec_l16Fits (p : SProof) (h0_ : 1 ≤ p.f0.length) (h1_ : p.f0.length ≤ 1048576) : RO Tryz.prog 68 [.agg p.cells] [(false, [.rd (.bool (closes p))])] := by
 refine RO.intro Tryz.func68 rfl 26 rfl (le_ok rfl) fun w Z => ?_
 refine T.sr [(1, (.one (.ptr 1 0))), (2, (pB false))] [(1, (39, [.d (.sl 10 (p.f0.map SHead.cells)), cI p.f1.f0, cI p.f1.f1, cS p.f1.f2, cS p.f1.f3, .d (.bss p.f1.f4)]))] ?_
 refine T.sg ?_
 refine TL.rx 4 [(5, (.one (.d (.sl 10 (p.f0.map SHead.cells))))), (7, (.one (.d (.sl 10 (p.f0.map SHead.cells)))))] [] ?_
 refine TL.c (Step.len' (e := 31) (z := 10) (d := (.sl 10 (p.f0.map SHead.cells))) (n := p.f0.length) rfl rfl (lt_ok rfl) p_6 rfl rfl p_120) ?_
 refine TL.sb ((p.f0.length : Int) - 1) ?_
 refine TL.c (Step.index (e := 31) (z := 10) (i := ((p.f0.length : Int) - 1)) rfl rfl (lt_ok rfl) p_6 rfl rfl rfl (lt_ok rfl) rfl p_17 p_39) ?_
 refine TL.c (Step.load_agg (n := 10) (cs := (c_8 p)) rfl rfl (lt_ok rfl) p_6 rfl rfl p_34) ?_
 refine TL.rl [(3, (.one (.ptr 3 0)))] [(3, (31, (c_8 p)))] ?_
 refine T.sg ?_
 refine TL.rx 7 [(18, (pB (decide (p.f1.f0 = (p.f0.getD ((p.f0.length : Int) - 1).toNat default).f0))))] [] ?_
 rcases Bool.eq_false_or_eq_true (decide (p.f1.f0 = (p.f0.getD ((p.f0.length : Int) - 1).toNat default).f0)) with hb1 | hb1
 ·refine TL.known 18 hb1 rfl ?_
  refine TL.rl [(2, (pB (decide (p.f1.f1 = (p.f0.getD ((p.f0.length : Int) - 1).toNat default).f1))))] [] ?_
  refine T.ret ?_
  exact p_170
 refine TL.known 18 hb1 rfl ?_
 refine TL.rl [(2, (pB false))] [] ?_
 refine T.ret ?_
 exact p_170
theorem ok_spec_l16Get (b : List Int) (s : SRS) (l : SLimits) (h0_ : U8s b) (h1_ : b.length ≤ 1048576) (h2_ : s.f1 = 0 → limOk l = true) : BX Tryz.prog 23 [.bx, .rd (.agg [(.int .i64 l.f0), (.int .i64 l.f1), (.int .i64 l.f2), (.int .i64 l.f3), (.int .i64 l.f4)])] 62 [.rd (.ints .u8 b), .rd (.int .i64 s.f0), .rd (.int .i64 s.f1)] [.rd (.ints .u8 b), .rd (.int .i64 (au l b s).1.f0), .rd (.int .i64 (au l b s).1.f1)] [(true, [.own 31 (.sl 10 ((au l b s).2.f0.map SHead.cells)), .rd (.int .i64 (au l b s).2.f1.f0), .rd (.int .i64 (au l b s).2.f1.f1), .own 5 (.ints .u8 (au l b s).2.f1.f2), .own 5 (.ints .u8 (au l b s).2.f1.f3), .own 24 (.bss (au l b s).2.f1.f4)])] := by
 refine BX.intro Tryz.func23 rfl 56 rfl (le_ok rfl) (le_ok rfl) fun w Z IX pin hp => ?_
 refine T.sr [(3, (.one (.ptr 3 0))), (4, (.one (.ptr 4 0)))] [(3, (46, (c_3 l))), (4, (39, c_40))] ?_
 refine T.sr [(5, (.one (.ptr 5 0)))] [(5, (39, c_40))] ?_
 refine T.sg ?_
 refine TL.rx 1 [(9, (.one (.ptr 800 0)))] [] ?_
 have nn1 := @ay b p_3 s
 refine TL.c (Step.x2 800 (ok_spec_l11Var b s p_3 p_0)) ?_
 refine TL.rl [(6, (pI (ab b s).2))] [] ?_
 refine T.sg ?_
 refine TL.rx 3 [(11, (.one (.ptr 800 0))), (13, (pB (decide ((ab b s).2 < 3))))] [] ?_
 refine TL.c (Step.x2 800 (ok_spec_l11Fail (decide (3 ≤ (ab b s).2)) b (ab b s).1 (decide ((ab b s).2 < 3)) 5 p_3 p_0 p_15)) ?_
 refine TL.nil (T.sg ?_)
 refine TL.rx 5 [(15, (.one (.ptr 800 0))), (19, (pB (decide (l.f4 < (ab b s).2))))] [] ?_
 refine TL.c (Step.x2 800 (ok_spec_l11Fail (decide ((ab b s).2 ≤ l.f4)) b (ac (ab b s).1 (decide (3 ≤ (ab b s).2)) 5) (decide (l.f4 < (ab b s).2)) 3 p_3 p_0 p_15)) ?_
 refine TL.nil (T.seq ?_)
 refine T.sr [(7, (pI 0))] [] ?_
 refine T.block ?_
 refine T.nilrow 5 0 100500 31 39 (.sl 10 []) c_40 rfl rfl rfl (fun x hx => by have := hp x hx; omega) rfl rfl (D.wf_nil _) ?_
 refine T.loop (ι := Nat × SRS × (List SHead)) (fun xx_ => { tm := [(0, (.one (.ptr 800 0))), (3, (.one (.ptr 3 0))), (4, (.one (.ptr 4 0))), (5, (.one (.ptr 5 0))), (6, (pI (ab b s).2)), (7, (pI ((xx_.1) : Int)))], rows := [(100500, (31, (.sl 10 ((xx_.2.2).map SHead.cells))))], boxes := [(800, (62, [cS b, cI (xx_.2.1).f0, cI (xx_.2.1).f1])), (3, (46, (c_3 l))), (4, (39, c_40)), (5, (39, [.row 100500 [], cI 0, cI 0, .nil, .nil, .nil]))] }) (fun xx_ => ((xx_.1) : Int) ≤ (ab b s).2 ∧ ((xx_.2.1).f1 = 0 → 3 ≤ (ab b s).2 ∧ (ab b s).2 ≤ 5) ∧ (xx_.2.2).length = (xx_.1) ∧ rdHs l b ((ab b s).2.toNat - (xx_.1)) (xx_.2.1) (xx_.2.2) = rdHs l b (ab b s).2.toNat (rdProof0 l b s) []) (fun xx_ => ((ab b s).2).toNat - (xx_.1)) (0, (ac (ac (ab b s).1 (decide (3 ≤ (ab b s).2)) 5) (decide ((ab b s).2 ≤ l.f4)) 3), []) ?_ ?_ ?_
 · refine Env.le_mk ⟨rfl, rfl, rfl, rfl, rfl, ?_, trivial⟩ ⟨?_, trivial⟩ ⟨?_, rfl, rfl, rfl, trivial⟩ <;> exact p_22
 · (dsimp only; refine ⟨by omega, fun h_ => by first | exact rdProof0_z h2_ h_ | omega, rfl, rfl⟩)
 intro xx_ hx
 obtain ⟨i, q, hs⟩ := xx_
 try dsimp only at hx ⊢
 obtain ⟨hx1, hx2, hx3, hx4⟩ := hx
 have hz_ := @rdQc_z l b q
 refine T.seq (T.sg ?_)
 refine TL.rx 4 [(24, (pB (decide ((i : Int) < (ab b s).2))))] [] ?_
 rcases Bool.eq_false_or_eq_true (decide ((i : Int) < (ab b s).2)) with hb2 | hb2
 ·refine TL.known 24 hb2 rfl ?_
  have hb2' := hb2
  replace hb2' := of_decide_eq_true hb2'
  refine TL.rl [(30, (pB (decide (q.f1 = 0))))] [] ?_
  refine T.ci rfl (fun h3 => ?_) (fun h3 => ?_)
  ·refine T.skip (T.seq (T.block ?_))
   have nn4 := @rdHead_sm l b q p_60
   have nn5 := @rdHead_ok l b q p_3
   refine T.drawX [{ dst := some 33, pv := (.one (.ptr 5 0)) }, { dst := some 34, pv := (.one (.row 100500 [])) }, { dst := some 35, pv := (.one (.ptr 800 0)) }, { dst := some 36, pv := (.agg (c_3 l)) }, { dst := some 37, pv := (.agg (c_38 b l q)), rows := [(13037, (24, (.bss (af l b q).2.f5.f4))), (12037, (5, (.ints .u8 (af l b q).2.f5.f3))), (11037, (5, (.ints .u8 (af l b q).2.f5.f2))), (8037, (5, (.ints .u8 (af l b q).2.f4))), (7037, (5, (.ints .u8 (af l b q).2.f3)))], box := some (800, (62, [cS b, cI (af l b q).1.f0, cI (af l b q).1.f1])) }, { dst := some 38, pv := (.one (.row 38 [])), rows := [(38, (31, (.sl 10 ([(af l b q).2].map SHead.cells))))], dead := [7037, 8037, 11037, 12037, 13037] }, { dst := some 39, pv := (.one (.row 500039 [])), rows := [(500039, (31, (.sl 10 ((hs ++ [(af l b q).2]).map SHead.cells))))], dead := [100500, 38] }, { dst := some 40, pv := (.one (.ptr 5 0)) }, { box := some (5, (39, c_81)) }] p_6 p_6 ?_ ?_
   ·refine .sk 4 ?_
    refine .cons (fun E A => OpStep.plain rfl (Step.callXX2 (b := 800) (xs := [.tmp 35, .tmp 36]) (ps := [(.one (.ptr 800 0)), (.agg (c_3 l))]) (bps := (c_72 b q)) (ss := []) (g := .func 20) (t := 37) (ok_spec_l13Get b q l p_3 p_0) rfl rfl p_21 rfl p_6 (evs_cons (A.g 35) (evs_cons (A.g 36) (rfl))) (.cons (.bx) (.cons (.rd (.agg (.cons (.d _) (.cons (.d _) (.cons (.d _) (.cons (.d _) (.cons (.d _) .nil))))))) .nil)) (A.b 800 (x := (62, _))) (.rd (.rd (.rd .nil))) rfl (handX_fresh (fun x_ hx_ => A.fresh x_ (by exact hx_))) (fun x hx => by have := hp x hx; omega) rfl p_109)) ?_
    refine .cons (fun E A => OpStep.plain rfl (Step.litX (e := 31) (z := 10) (by_ := 160) (xs := [.tmp 37]) (pss := [(c_38 b l q)]) (es := [(.int .i64 (af l b q).2.f0), (.int .i64 (af l b q).2.f1), (.int .i64 (af l b q).2.f2), (.ints .u8 (af l b q).2.f3), (.ints .u8 (af l b q).2.f4), (.int .i64 (af l b q).2.f5.f0), (.int .i64 (af l b q).2.f5.f1), (.ints .u8 (af l b q).2.f5.f2), (.ints .u8 (af l b q).2.f5.f3), (.bss (af l b q).2.f5.f4)]) (ss := [7037, 8037, 11037, 12037, 13037]) (d := (.sl 10 ([(af l b q).2].map SHead.cells))) (t := 38) rfl rfl p_21 p_6 rfl rfl (.cons p_96 .nil) p_104 (le_ok rfl) (le_ok rfl) A.fn (.val rfl (.val rfl (.val rfl (.row (A.r 7037 (x := (5, _))) p_104 (.row (A.r 8037 (x := (5, _))) p_104 (.val rfl (.val rfl (.row (A.r 11037 (x := (5, _))) p_104 (.row (A.r 12037 (x := (5, _))) p_104 (.row (A.r 13037 (x := (24, _))) p_104 .nil)))))))))) (A.fresh _ (List.mem_singleton.2 rfl)) p_104 (fun x_ hx_ => by have := hp x_ hx_; omega) rfl (wf_map SHead.len _) rfl rfl)) ?_
    refine .cons (fun E A => OpStep.plain rfl (Step.appendX (e := 31) (z := 10) (by_ := 160) (d := (.sl 10 (hs.map SHead.cells))) (dy := (.sl 10 ([(af l b q).2].map SHead.cells))) (d' := (.sl 10 ((hs ++ [(af l b q).2]).map SHead.cells))) (ss := [38]) 500039 (t := 39) rfl rfl p_21 p_6 (A.g 34) (A.r 100500 (x := (31, _))) rfl (lt_ok rfl) (A.g 38) (.move (A.r 38 (x := (31, _)))) p_104 app_sl p_19 p_19 (fun x_ hx_ => by have := hp x_ hx_; omega) (A.fresh _ (List.mem_singleton.2 rfl)) p_104 (fun x_ hx_ => by have := hp x_ hx_; omega))) ?_
    refine .sk 2 ?_
    exact .nil _ _
   refine TL.wk [(0, (.one (.ptr 800 0))), (3, (.one (.ptr 3 0))), (4, (.one (.ptr 4 0))), (5, (.one (.ptr 5 0))), (6, (pI (ab b s).2)), (7, (pI (i : Int)))] [(500039, (31, (.sl 10 ((hs ++ [(af l b q).2]).map SHead.cells))))] [(800, (62, [cS b, cI (af l b q).1.f0, cI (af l b q).1.f1])), (3, (46, (c_3 l))), (4, (39, c_40)), (5, (39, c_81))] ?_
   refine TL.ren 500039 100500 rfl (fun x hx => by have := hp x hx; omega) ?_
   refine TL.nil (T.region ?_)
   refine TL.rx 1 [(31, (pI (i : Int)))] [] ?_
   refine TL.ad ((i : Int) + 1) ?_
   refine TL.rl [(7, (pI ((i : Int) + 1)))] [] ?_
   refine ⟨(i + 1, (af l b q).1, (hs ++ [(af l b q).2])), by (try dsimp only); (refine ⟨by omega, fun _ => by omega, by simp only [List.length_append, List.length_cons, List.length_nil]; first | done | omega, ?_⟩; exact (rdHs_next p_4 p_4).symm.trans hx4), by (dsimp only; omega), Env.le_mk ⟨rfl, rfl, rfl, rfl, rfl, ?_, trivial⟩ ⟨?_, trivial⟩ ⟨?_, rfl, rfl, rfl, trivial⟩⟩ <;> exact p_22
  refine T.exit (T.sg ?_)
  refine TL.rx 2 [(41, (.one (.ptr 800 0))), (42, (.agg (c_3 l)))] [] ?_
  have nn6 := @rdQc_sm l b q p_60
  have nn7 := @rdQc_ok l b q p_3
  refine TL.c (Step.x2 800 (ok_spec_l12Get b q l p_3 p_0)) ?_
  refine TL.rl [] [(5, (39, (c_10 b l q)))] ?_
  refine T.seq ?_
  refine T.sr [(49, (pB (decide ((rdQc l b q).1.f1 = 0))))] [] ?_
  refine T.ci rfl (fun h8 => ?_) (fun h8 => ?_)
  ·refine T.region ?_
   refine TL.rx 2 [(50, (.one (.ptr 800 0))), (51, (.agg (c_10 b l q)))] [] ?_
   refine TL.c (Step.call (f := 68) (xs := [.tmp 51]) (ps := [(.agg (c_10 b l q))]) false (g := .func 68) rfl rfl (lt_ok rfl) rfl p_6 rfl (.cons (.agg (.cons (.row rfl rfl rfl rfl) (.cons (.d _) (.cons (.d _) (.cons (.row rfl rfl rfl rfl) (.cons (.row rfl rfl rfl rfl) (.cons (.row rfl rfl rfl rfl) .nil))))))) .nil) (ok_spec_l16Fits (⟨hs, (rdQc l b q).2⟩ : SProof) (by first | omega | assumption | (dsimp only; omega)) (by first | exact s0.1 | omega | (dsimp only; omega))) (.inr rfl) rfl (fun x hx => by have := hp x hx; omega) rfl) ?_
   refine TL.rx 1 [(53, (pB (!(closes (⟨hs, (rdQc l b q).2⟩ : SProof)))))] [] ?_
   refine TL.c (Step.x2 800 (ok_spec_l11Fail (closes (⟨hs, (rdQc l b q).2⟩ : SProof)) b (rdQc l b q).1 (!(closes (⟨hs, (rdQc l b q).2⟩ : SProof))) 6 p_3 p_0 p_15)) ?_
   refine TL.nil ?_
   refine T.sr [] [(4, (39, (c_10 b l q)))] ?_
   refine T.ret ?_
   exact p_133
  refine T.skip ?_
  refine T.sr [] [(4, (39, (c_10 b l q)))] ?_
  refine T.ret ?_
  exact p_133
 refine TL.known 24 hb2 rfl ?_
 have hb2' := hb2
 replace hb2' := of_decide_eq_false hb2'
 refine TL.rl [(30, (pB false))] [] ?_
 refine T.cf (T.exit (T.sg ?_))
 refine TL.rx 2 [(41, (.one (.ptr 800 0))), (42, (.agg (c_3 l)))] [] ?_
 have nn9 := @rdQc_sm l b q p_60
 have nn10 := @rdQc_ok l b q p_3
 refine TL.c (Step.x2 800 (ok_spec_l12Get b q l p_3 p_0)) ?_
 refine TL.rl [] [(5, (39, (c_10 b l q)))] ?_
 refine T.seq ?_
 refine T.sr [(49, (pB (decide ((rdQc l b q).1.f1 = 0))))] [] ?_
 refine T.ci rfl (fun h11 => ?_) (fun h11 => ?_)
 ·refine T.region ?_
  refine TL.rx 2 [(50, (.one (.ptr 800 0))), (51, (.agg (c_10 b l q)))] [] ?_
  refine TL.c (Step.call (f := 68) (xs := [.tmp 51]) (ps := [(.agg (c_10 b l q))]) false (g := .func 68) rfl rfl (lt_ok rfl) rfl p_6 rfl (.cons (.agg (.cons (.row rfl rfl rfl rfl) (.cons (.d _) (.cons (.d _) (.cons (.row rfl rfl rfl rfl) (.cons (.row rfl rfl rfl rfl) (.cons (.row rfl rfl rfl rfl) .nil))))))) .nil) (ok_spec_l16Fits (⟨hs, (rdQc l b q).2⟩ : SProof) (by first | omega | assumption | (dsimp only; omega)) (by first | exact s0.1 | omega | (dsimp only; omega))) (.inr rfl) rfl (fun x hx => by have := hp x hx; omega) rfl) ?_
  refine TL.rx 1 [(53, (pB (!(closes (⟨hs, (rdQc l b q).2⟩ : SProof)))))] [] ?_
  refine TL.c (Step.x2 800 (ok_spec_l11Fail (closes (⟨hs, (rdQc l b q).2⟩ : SProof)) b (rdQc l b q).1 (!(closes (⟨hs, (rdQc l b q).2⟩ : SProof))) 6 p_3 p_0 p_15)) ?_
  refine TL.nil ?_
  refine T.sr [] [(4, (39, (c_10 b l q)))] ?_
  refine T.ret ?_
  exact p_133
 refine T.skip ?_
 refine T.sr [] [(4, (39, (c_10 b l q)))] ?_
 refine T.ret ?_
 exact p_133
theorem ok_spec_l08In (i : Int) (n : Int) : RO Tryz.prog 109 [.one (.int .i64 i), .one (.int .i64 n)] [(false, [.rd (.bool (decide (1 ≤ n ∧ n ≤ 1048576) && decide (0 ≤ i ∧ i ≤ n - 1)))])] := by
 refine RO.intro Tryz.func109 rfl 13 rfl (le_ok rfl) fun w Z => ?_
 refine T.sr [(4, (pB false))] [] ?_
 refine T.sg ?_
 refine TL.rx 1 [(5, (pI n))] [] ?_
 refine TL.c (Step.cz (ok_spec_l01In n 1 1048576)) ?_
 refine TL.rx 1 [(7, (pB (decide (1 ≤ n ∧ n ≤ 1048576))))] [] ?_
 rcases Bool.eq_false_or_eq_true (decide (1 ≤ n ∧ n ≤ 1048576)) with hb1 | hb1
 ·refine TL.known 7 hb1 rfl ?_
  have hb1' := hb1
  replace hb1' := of_decide_eq_true hb1'
  refine TL.rx 2 [(8, (pI i)), (9, (pI n))] [] ?_
  refine TL.gy 7 (Step.bin (r := .int .i64 (n - 1)) rfl rfl (lt_ok rfl) rfl rfl (Bin.sub (a := n) (b := 1) p_99)) ?_
  refine TL.gy 7 (Step.cz (ok_spec_l01In i 0 (n - 1))) ?_
  refine TL.rl [(4, (pB (decide (0 ≤ i ∧ i ≤ (n - 1)))))] [] ?_
  refine T.ret ?_
  exact p_174
 refine TL.known 7 hb1 rfl ?_
 have hb1' := hb1
 replace hb1' := of_decide_eq_false hb1'
 refine TL.rl [(4, (pB false))] [] ?_
 refine T.ret ?_
 exact p_174
theorem ok_spec_PathLen_r (d_ : Nat) : ∀ (i : Int) (n : Int) (hd_ : n.toNat = d_) , RO Tryz.prog 69 [.one (.int .i64 i), .one (.int .i64 n)] [(false, [.rd (.int .i64 (aw i n))])] := by
 refine Nat.strongRecOn d_ ?_
 intro d_ ih i n hd_ 
 subst hd_
 refine RO.intro Tryz.func69 rfl 31 rfl (le_ok rfl) fun w Z => ?_
 have hsb_ := splitAtT_bd n
 refine T.sr [(4, (pI 0))] [] ?_
 refine T.seq (T.sg ?_)
 refine TL.rx 2 [(6, (pI i)), (7, (pI n))] [] ?_
 refine TL.c (Step.cz (ok_spec_l08In i n)) ?_
 refine TL.rx 2 [(10, (pB (!(decide (1 ≤ n ∧ n ≤ 1048576) && decide (0 ≤ i ∧ i ≤ n - 1)))))] [] ?_
 rcases Bool.eq_false_or_eq_true (!(decide (1 ≤ n ∧ n ≤ 1048576) && decide (0 ≤ i ∧ i ≤ n - 1))) with hb1 | hb1
 ·refine TL.known 10 hb1 rfl ?_
  have hb1' := hb1
  replace hb1' : (decide (1 ≤ n ∧ n ≤ 1048576) && decide (0 ≤ i ∧ i ≤ n - 1)) = false := by simpa only [Bool.not_eq_true', Bool.not_eq_false'] using hb1'
  simp only [Bool.and_eq_true, Bool.and_eq_false_iff, decide_eq_true_eq, decide_eq_false_iff_not] at hb1'
  refine TL.rl [(13, (pB true))] [] ?_
  refine T.ct ?_
  refine T.sr [(4, (pI 0))] [] ?_
  refine T.ret ?_
  exact p_140
 refine TL.known 10 hb1 rfl ?_
 have hb1' := hb1
 replace hb1' : (decide (1 ≤ n ∧ n ≤ 1048576) && decide (0 ≤ i ∧ i ≤ n - 1)) = true := by simpa only [Bool.not_eq_true', Bool.not_eq_false'] using hb1'
 simp only [Bool.and_eq_true, Bool.and_eq_false_iff, decide_eq_true_eq, decide_eq_false_iff_not] at hb1'
 refine TL.rl [(13, (pB (decide (n = 1))))] [] ?_
 refine T.ci rfl (fun h2 => ?_) (fun h2 => ?_)
 ·refine T.sr [(4, (pI 0))] [] ?_
  refine T.ret ?_
  exact p_140
 refine T.skip (T.sg ?_)
 refine TL.rx 1 [(14, (pI n))] [] ?_
 have nn3 := splitAtT_bd n
 refine TL.c (Step.cz (ok_spec_SplitAt n p_0)) ?_
 refine TL.rl [(5, (pI (ag n)))] [] ?_
 refine T.seq ?_
 refine T.sr [(18, (pB (decide (i < (ag n)))))] [] ?_
 refine T.ci rfl (fun h4 => ?_) (fun h4 => ?_)
 ·refine T.sg ?_
  refine TL.rx 2 [(19, (pI i)), (20, (pI (ag n)))] [] ?_
  have nn5 := pathLenT_bd (i) ((ag n))
  refine TL.c (Step.call (f := 69) (xs := [.tmp 19, .tmp 20]) (ps := [(pI i), (pI (ag n))]) false (g := .func 69) rfl rfl (lt_ok rfl) rfl p_6 rfl (.cons (.one (.d _)) (.cons (.one (.d _)) .nil)) (ih (ag n).toNat p_4 i (ag n) rfl) (.inr rfl) rfl p_104 rfl) ?_
  refine TL.ad (1 + (aw i (ag n))) ?_
  refine TL.rl [(4, (pI (1 + (aw i (ag n)))))] [] ?_
  refine T.ret ?_
  exact p_140
 refine T.skip (T.sg ?_)
 refine TL.rx 2 [(23, (pI i)), (24, (pI (ag n)))] [] ?_
 refine TL.sb (i - (ag n)) ?_
 refine TL.rx 2 [(26, (pI n)), (27, (pI (ag n)))] [] ?_
 refine TL.sb (n - (ag n)) ?_
 have nn6 := pathLenT_bd ((i - (ag n))) ((n - (ag n)))
 refine TL.c (Step.call (f := 69) (xs := [.tmp 25, .tmp 28]) (ps := [(pI (i - (ag n))), (pI (n - (ag n)))]) false (g := .func 69) rfl rfl (lt_ok rfl) rfl p_6 rfl (.cons (.one (.d _)) (.cons (.one (.d _)) .nil)) (ih (n - (ag n)).toNat p_4 (i - (ag n)) (n - (ag n)) rfl) (.inr rfl) rfl p_104 rfl) ?_
 refine TL.ad (1 + (aw (i - (ag n)) (n - (ag n)))) ?_
 refine TL.rl [(4, (pI (1 + (aw (i - (ag n)) (n - (ag n))))))] [] ?_
 refine T.ret ?_
 exact p_140
theorem ok_spec_PathLen (i : Int) (n : Int) : RO Tryz.prog 69 [.one (.int .i64 i), .one (.int .i64 n)] [(false, [.rd (.int .i64 (aw i n))])] := ok_spec_PathLen_r _ i n rfl 
theorem ok_spec_l16GetIncl (b : List Int) (s : SRS) (l : SLimits) (h0_ : U8s b) (h1_ : b.length ≤ 1048576) : BX Tryz.prog 24 [.bx, .rd (.agg [(.int .i64 l.f0), (.int .i64 l.f1), (.int .i64 l.f2), (.int .i64 l.f3), (.int .i64 l.f4)])] 62 [.rd (.ints .u8 b), .rd (.int .i64 s.f0), .rd (.int .i64 s.f1)] [.rd (.ints .u8 b), .rd (.int .i64 (rdInclS l b s).1.f0), .rd (.int .i64 (rdInclS l b s).1.f1)] [(true, [.rd (.int .i64 (rdInclS l b s).2.f0), .rd (.int .i64 (rdInclS l b s).2.f1), .rd (.int .i64 (rdInclS l b s).2.f2), .own 5 (.ints .u8 (rdInclS l b s).2.f3), .own 24 (.bss (rdInclS l b s).2.f4)])] := by
 refine BX.intro Tryz.func24 rfl 64 rfl (le_ok rfl) (le_ok rfl) fun w Z IX pin hp => ?_
 have hb1_ := @ay b h0_ (ab b s).1
 have hp_ := pathLenT_bd (rdI2 l b s).2 (ab b (ab b s).1).2
 have hp2_ : rdIn l b s = (aw (rdI2 l b s).2 (ab b (ab b s).1).2).toNat := rfl
 refine T.sr [(3, (.one (.ptr 3 0))), (4, (.one (.ptr 4 0)))] [(3, (46, (c_3 l))), (4, (41, c_50))] ?_
 refine T.sg ?_
 refine TL.rx 1 [(7, (.one (.ptr 800 0)))] [] ?_
 have nn1 := @ay b p_3 s
 refine TL.c (Step.x2 800 (ok_spec_l11Var b s p_3 p_0)) ?_
 refine TL.rl [(5, (.one (.ptr 5 0)))] [(5, (41, [cI (ab b s).2, cI 0, cI 0, .nil, .nil]))] ?_
 refine T.sg ?_
 refine TL.rx 1 [(10, (.one (.ptr 800 0)))] [] ?_
 have nn2 := @ay b p_3 (ab b s).1
 refine TL.c (Step.x2 800 (ok_spec_l11Var b (ab b s).1 p_3 p_0)) ?_
 refine TL.rl [] [(5, (41, [cI (ab b s).2, cI (ab b (ab b s).1).2, cI 0, .nil, .nil]))] ?_
 refine T.sg ?_
 refine TL.rx 4 [(13, (.one (.ptr 800 0))), (16, (pB (decide ((ab b (ab b s).1).2 = 0))))] [] ?_
 refine TL.c (Step.x2 800 (ok_spec_l11Fail (decide (0 < (ab b (ab b s).1).2)) b (ab b (ab b s).1).1 (decide ((ab b (ab b s).1).2 = 0)) 5 p_3 p_0 p_15)) ?_
 refine TL.nil (T.sg ?_)
 refine TL.rx 6 [(18, (.one (.ptr 800 0))), (23, (pB (decide (l.f2 < (ab b (ab b s).1).2))))] [] ?_
 refine TL.c (Step.x2 800 (ok_spec_l11Fail (decide ((ab b (ab b s).1).2 ≤ l.f2)) b (ac (ab b (ab b s).1).1 (decide (0 < (ab b (ab b s).1).2)) 5) (decide (l.f2 < (ab b (ab b s).1).2)) 3 p_3 p_0 p_15)) ?_
 refine TL.nil (T.sg ?_)
 refine TL.rx 1 [(25, (.one (.ptr 800 0)))] [] ?_
 have nn3 := @ay b p_3 (ac (ac (ab b (ab b s).1).1 (decide (0 < (ab b (ab b s).1).2)) 5) (decide ((ab b (ab b s).1).2 ≤ l.f2)) 3)
 refine TL.c (Step.x2 800 (ok_spec_l11Var b (ac (ac (ab b (ab b s).1).1 (decide (0 < (ab b (ab b s).1).2)) 5) (decide ((ab b (ab b s).1).2 ≤ l.f2)) 3) p_3 p_0)) ?_
 refine TL.rl [] [(5, (41, [cI (ab b s).2, cI (ab b (ab b s).1).2, cI (ab b (ac (ac (ab b (ab b s).1).1 (decide (0 < (ab b (ab b s).1).2)) 5) (decide ((ab b (ab b s).1).2 ≤ l.f2)) 3)).2, .nil, .nil]))] ?_
 refine T.sg ?_
 refine TL.rx 6 [(28, (.one (.ptr 800 0))), (33, (pB (decide ((ab b (ab b s).1).2 ≤ (ab b (ac (ac (ab b (ab b s).1).1 (decide (0 < (ab b (ab b s).1).2)) 5) (decide ((ab b (ab b s).1).2 ≤ l.f2)) 3)).2))))] [] ?_
 refine TL.c (Step.x2 800 (ok_spec_l11Fail (decide ((ab b (ac (ac (ab b (ab b s).1).1 (decide (0 < (ab b (ab b s).1).2)) 5) (decide ((ab b (ab b s).1).2 ≤ l.f2)) 3)).2 < (ab b (ab b s).1).2)) b (ab b (ac (ac (ab b (ab b s).1).1 (decide (0 < (ab b (ab b s).1).2)) 5) (decide ((ab b (ab b s).1).2 ≤ l.f2)) 3)).1 (decide ((ab b (ab b s).1).2 ≤ (ab b (ac (ac (ab b (ab b s).1).1 (decide (0 < (ab b (ab b s).1).2)) 5) (decide ((ab b (ab b s).1).2 ≤ l.f2)) 3)).2)) 5 p_3 p_0 p_15)) ?_
 refine TL.nil (T.sg ?_)
 refine TL.rx 3 [(35, (.one (.ptr 800 0))), (37, (pI l.f1))] [] ?_
 have nn4 := rdText_len b (ac (ab b (ac (ac (ab b (ab b s).1).1 (decide (0 < (ab b (ab b s).1).2)) 5) (decide ((ab b (ab b s).1).2 ≤ l.f2)) 3)).1 (decide ((ab b (ac (ac (ab b (ab b s).1).1 (decide (0 < (ab b (ab b s).1).2)) 5) (decide ((ab b (ab b s).1).2 ≤ l.f2)) 3)).2 < (ab b (ab b s).1).2)) 5) l.f1
 refine TL.c (Step.x2 800 (ok_spec_l11Text b (ac (ab b (ac (ac (ab b (ab b s).1).1 (decide (0 < (ab b (ab b s).1).2)) 5) (decide ((ab b (ab b s).1).2 ≤ l.f2)) 3)).1 (decide ((ab b (ac (ac (ab b (ab b s).1).1 (decide (0 < (ab b (ab b s).1).2)) 5) (decide ((ab b (ab b s).1).2 ≤ l.f2)) 3)).2 < (ab b (ab b s).1).2)) 5) l.f1 p_3 p_0)) ?_
 refine TL.rl [] [(5, (41, (c_53 b l s)))] ?_
 refine T.seq ?_
 refine T.sr [(6, (pI 0))] [] ?_
 refine T.block ?_
 refine T.nilrow 5 4 100504 24 41 (.bss []) (c_53 b l s) rfl rfl rfl (fun x hx => by have := hp x hx; omega) rfl rfl trivial ?_
 refine T.loop (ι := Nat × SRS × (List (List Int))) (fun xx_ => { tm := [(0, (.one (.ptr 800 0))), (4, (.one (.ptr 4 0))), (5, (.one (.ptr 5 0))), (6, (pI ((xx_.1) : Int)))], rows := [(4038, (5, (.ints .u8 (rdText b (ac (ab b (ac (ac (ab b (ab b s).1).1 (decide (0 < (ab b (ab b s).1).2)) 5) (decide ((ab b (ab b s).1).2 ≤ l.f2)) 3)).1 (decide ((ab b (ac (ac (ab b (ab b s).1).1 (decide (0 < (ab b (ab b s).1).2)) 5) (decide ((ab b (ab b s).1).2 ≤ l.f2)) 3)).2 < (ab b (ab b s).1).2)) 5) l.f1).2))), (100504, (24, (.bss (xx_.2.2))))], boxes := [(800, (62, [cS b, cI (xx_.2.1).f0, cI (xx_.2.1).f1])), (3, (46, (c_3 l))), (4, (41, c_50)), (5, (41, (c_42 b l s)))] }) (fun xx_ => (xx_.1) ≤ rdIn l b s ∧ (xx_.2.2).length = (xx_.1) ∧ rdTg b (rdIn l b s - (xx_.1)) (xx_.2.1) (xx_.2.2) = rdTg b (rdIn l b s) (rdI3 l b s).1 []) (fun xx_ => rdIn l b s - (xx_.1)) (0, (rdI3 l b s).1, []) ?_ ?_ ?_
 · refine Env.le_mk ⟨rfl, rfl, rfl, ?_, trivial⟩ ⟨rfl, ?_, trivial⟩ ⟨?_, rfl, rfl, rfl, trivial⟩ <;> exact p_22
 · (dsimp only; exact ⟨Nat.zero_le _, rfl, rfl⟩)
 intro xx_ hx
 obtain ⟨i, q, ts⟩ := xx_
 try dsimp only at hx ⊢
 obtain ⟨hx1, hx3, hx4⟩ := hx
 refine T.seq (T.sg ?_)
 refine TL.rx 6 [(45, (pB (decide (q.f1 = 0))))] [] ?_
 rcases Bool.eq_false_or_eq_true (decide (q.f1 = 0)) with hb5 | hb5
 ·refine TL.known 45 hb5 rfl ?_
  have hb5' := hb5
  replace hb5' := of_decide_eq_true hb5'
  refine TL.rx 5 [(46, (pI (i : Int))), (48, (pI (ab b (ac (ac (ab b (ab b s).1).1 (decide (0 < (ab b (ab b s).1).2)) 5) (decide ((ab b (ab b s).1).2 ≤ l.f2)) 3)).2)), (50, (pI (ab b (ab b s).1).2))] [] ?_
  have nn6 := pathLenT_bd ((ab b (ac (ac (ab b (ab b s).1).1 (decide (0 < (ab b (ab b s).1).2)) 5) (decide ((ab b (ab b s).1).2 ≤ l.f2)) 3)).2) ((ab b (ab b s).1).2)
  refine TL.gy 45 (Step.call (f := 69) (xs := [.tmp 48, .tmp 50]) (ps := [(pI (ab b (ac (ac (ab b (ab b s).1).1 (decide (0 < (ab b (ab b s).1).2)) 5) (decide ((ab b (ab b s).1).2 ≤ l.f2)) 3)).2), (pI (ab b (ab b s).1).2)]) false (g := .func 69) rfl rfl (lt_ok rfl) rfl p_6 rfl (.cons (.one (.d _)) (.cons (.one (.d _)) .nil)) (ok_spec_PathLen (ab b (ac (ac (ab b (ab b s).1).1 (decide (0 < (ab b (ab b s).1).2)) 5) (decide ((ab b (ab b s).1).2 ≤ l.f2)) 3)).2 (ab b (ab b s).1).2) (.inr rfl) rfl (fun x hx => by have := hp x hx; omega) rfl) ?_
  refine TL.rl [(53, (pB (decide ((i : Int) < (aw (ab b (ac (ac (ab b (ab b s).1).1 (decide (0 < (ab b (ab b s).1).2)) 5) (decide ((ab b (ab b s).1).2 ≤ l.f2)) 3)).2 (ab b (ab b s).1).2)))))] [] ?_
  refine T.ci rfl (fun h7 => ?_) (fun h7 => ?_)
  ·refine T.skip (T.seq (T.block ?_))
   have nn8 := rdRaw_len b q 32
   refine T.drawX [{ dst := some 56, pv := (.one (.ptr 5 4)) }, { dst := some 57, pv := (.one (.row 100504 [])) }, { dst := some 58, pv := (.one (.ptr 800 0)) }, { dst := some 59, pv := (.one (.row 4059 [])), rows := [(4059, (5, (.ints .u8 (ae b q 32).2)))], box := some (800, (62, [cS b, cI (ae b q 32).1.f0, cI (ae b q 32).1.f1])) }, { dst := some 60, pv := (.one (.row 60 [])), rows := [(60, (24, (.bss [(ae b q 32).2])))], dead := [4059] }, { dst := some 61, pv := (.one (.row 500061 [])), rows := [(500061, (24, (.bss (ts ++ [(ae b q 32).2]))))], dead := [100504, 60] }, { dst := some 62, pv := (.one (.ptr 5 4)) }, { box := some (5, (41, (c_49 b l s))) }] p_6 p_6 ?_ ?_
   ·refine .sk 3 ?_
    refine .cons (fun E A => OpStep.plain rfl (Step.callXX2 (b := 800) (xs := [.tmp 58]) (ps := [(.one (.ptr 800 0))]) (bps := (c_72 b q)) (ss := []) (g := .func 61) (t := 59) (ok_spec_l11Raw b q p_3 p_0) rfl rfl p_21 rfl p_6 (evs_cons (A.g 58) (rfl)) (.cons (.bx) .nil) (A.b 800 (x := (62, _))) (.rd (.rd (.rd .nil))) rfl (handX_fresh (fun x_ hx_ => A.fresh x_ (by exact hx_))) (fun x hx => by have := hp x hx; omega) rfl p_109)) ?_
    refine .cons (fun E A => OpStep.plain rfl (Step.litX (e := 24) (z := 1) (by_ := 24) (xs := [.tmp 59]) (pss := [[.row 4059 []]]) (es := [(.ints .u8 (ae b q 32).2)]) (ss := [4059]) (d := (.bss [(ae b q 32).2])) (t := 60) rfl rfl p_21 p_6 rfl rfl (.cons (by exact (congrArg PV.flat (A.g 59 (p := (.one (.row 4059 []))))).trans rfl) .nil) p_104 (le_ok rfl) (le_ok rfl) A.fn (.row (A.r 4059 (x := (5, _))) p_104 .nil) (A.fresh _ (List.mem_singleton.2 rfl)) p_104 (fun x_ hx_ => by have := hp x_ hx_; omega) rfl trivial rfl rfl)) ?_
    refine .cons (fun E A => OpStep.plain rfl (Step.appendX (e := 24) (z := 1) (by_ := 24) (d := (.bss ts)) (dy := (.bss [(ae b q 32).2])) (d' := (.bss (ts ++ [(ae b q 32).2]))) (ss := [60]) 500061 (t := 61) rfl rfl p_21 p_6 (A.g 57) (A.r 100504 (x := (24, _))) rfl (lt_ok rfl) (A.g 60) (.move (A.r 60 (x := (24, _)))) p_104 rfl p_19 p_19 (fun x_ hx_ => by have := hp x_ hx_; omega) (A.fresh _ (List.mem_singleton.2 rfl)) p_104 (fun x_ hx_ => by have := hp x_ hx_; omega))) ?_
    refine .sk 2 ?_
    exact .nil _ _
   refine TL.wk [(0, (.one (.ptr 800 0))), (4, (.one (.ptr 4 0))), (5, (.one (.ptr 5 0))), (6, (pI (i : Int)))] [(4038, (5, (.ints .u8 (rdText b (ac (ab b (ac (ac (ab b (ab b s).1).1 (decide (0 < (ab b (ab b s).1).2)) 5) (decide ((ab b (ab b s).1).2 ≤ l.f2)) 3)).1 (decide ((ab b (ac (ac (ab b (ab b s).1).1 (decide (0 < (ab b (ab b s).1).2)) 5) (decide ((ab b (ab b s).1).2 ≤ l.f2)) 3)).2 < (ab b (ab b s).1).2)) 5) l.f1).2))), (500061, (24, (.bss (ts ++ [(ae b q 32).2]))))] [(800, (62, [cS b, cI (ae b q 32).1.f0, cI (ae b q 32).1.f1])), (3, (46, (c_3 l))), (4, (41, c_50)), (5, (41, (c_49 b l s)))] ?_
   refine TL.ren 500061 100504 rfl (fun x hx => by have := hp x hx; omega) ?_
   refine TL.nil (T.region ?_)
   refine TL.rx 1 [(54, (pI (i : Int)))] [] ?_
   refine TL.ad ((i : Int) + 1) ?_
   refine TL.rl [(6, (pI ((i : Int) + 1)))] [] ?_
   refine ⟨(i + 1, (ae b q 32).1, (ts ++ [(ae b q 32).2])), by (try dsimp only); (refine ⟨by first | omega | (have : (i : Int) < aw (rdI2 l b s).2 (ab b (ab b s).1).2 := p_3; omega), by simp only [List.length_append, List.length_cons, List.length_nil]; first | done | omega, ?_⟩; exact (rdTg_next (by first | omega | (have : (i : Int) < aw (rdI2 l b s).2 (ab b (ab b s).1).2 := (by assumption); omega)) p_4).symm.trans hx4), by (dsimp only; first | omega | (have : (i : Int) < aw (rdI2 l b s).2 (ab b (ab b s).1).2 := p_3; omega)), Env.le_mk ⟨rfl, rfl, rfl, ?_, trivial⟩ ⟨rfl, ?_, trivial⟩ ⟨?_, rfl, rfl, rfl, trivial⟩⟩ <;> exact p_22
  refine T.exit ?_
  refine T.sr [] [(4, (41, (c_42 b l s)))] ?_
  refine T.ret ?_
  exact p_164
 refine TL.known 45 hb5 rfl ?_
 have hb5' := hb5
 replace hb5' := of_decide_eq_false hb5'
 refine TL.rl [(53, (pB false))] [] ?_
 refine T.cf (T.exit ?_)
 refine T.sr [] [(4, (41, (c_42 b l s)))] ?_
 refine T.ret ?_
 exact p_164
theorem ok_spec_Decode (l : SLimits) (b : List Int) (h0_ : U8s b) (h1_ : b.length ≤ 1048576) : RO Tryz.prog 5 [.agg l.cells, .one (.ints .u8 b)] [(true, [.rd (.int .i64 (aa l b).1.f0), .rd (.int .i64 (aa l b).1.f1.f0), .rd (.int .i64 (aa l b).1.f1.f1), .own 5 (.ints .u8 (aa l b).1.f1.f2), .rd (.int .i64 (aa l b).1.f1.f3), .own 5 (.ints .u8 (aa l b).1.f1.f4), .rd (.int .i64 (aa l b).1.f2.f0), .rd (.int .i64 (aa l b).1.f2.f1), .own 5 (.ints .u8 (aa l b).1.f2.f2), .own 5 (.ints .u8 (aa l b).1.f2.f3), .own 24 (.bss (aa l b).1.f2.f4), .rd (.int .i64 (aa l b).1.f3.f0), .rd (.int .i64 (aa l b).1.f3.f1), .rd (.int .i64 (aa l b).1.f3.f2), .own 5 (.ints .u8 (aa l b).1.f3.f3), .own 5 (.ints .u8 (aa l b).1.f3.f4), .rd (.int .i64 (aa l b).1.f3.f5.f0), .rd (.int .i64 (aa l b).1.f3.f5.f1), .own 5 (.ints .u8 (aa l b).1.f3.f5.f2), .own 5 (.ints .u8 (aa l b).1.f3.f5.f3), .own 24 (.bss (aa l b).1.f3.f5.f4), .rd (.int .i64 (aa l b).1.f4.f0.f0), .rd (.int .i64 (aa l b).1.f4.f0.f1), .rd (.int .i64 (aa l b).1.f4.f0.f2), .own 5 (.ints .u8 (aa l b).1.f4.f0.f3), .own 5 (.ints .u8 (aa l b).1.f4.f0.f4), .rd (.int .i64 (aa l b).1.f4.f0.f5.f0), .rd (.int .i64 (aa l b).1.f4.f0.f5.f1), .own 5 (.ints .u8 (aa l b).1.f4.f0.f5.f2), .own 5 (.ints .u8 (aa l b).1.f4.f0.f5.f3), .own 24 (.bss (aa l b).1.f4.f0.f5.f4), .own 24 (.bss (aa l b).1.f4.f1), .rd (.int .i64 (aa l b).1.f5.f0), .own 111 (.sl 3 ((aa l b).1.f5.f1.map SEntry.cells)), .own 31 (.sl 10 ((aa l b).1.f6.f0.map SHead.cells)), .rd (.int .i64 (aa l b).1.f6.f1.f0), .rd (.int .i64 (aa l b).1.f6.f1.f1), .own 5 (.ints .u8 (aa l b).1.f6.f1.f2), .own 5 (.ints .u8 (aa l b).1.f6.f1.f3), .own 24 (.bss (aa l b).1.f6.f1.f4), .rd (.int .i64 (aa l b).1.f7.f0), .rd (.int .i64 (aa l b).1.f7.f1), .rd (.int .i64 (aa l b).1.f7.f2), .own 5 (.ints .u8 (aa l b).1.f7.f3), .own 24 (.bss (aa l b).1.f7.f4)]), (false, [.rd (.int .i64 (aa l b).2)])] := by
 refine RO.intro Tryz.func5 rfl 107 rfl (le_ok rfl) fun w Z => ?_
 refine T.bnd 1 0 rfl rfl fun hb_1_0 => ?_
 simp only [D.size, List.length_map] at hb_1_0
 have hu0_ := getD_u8 h0_ 0
 refine T.sr [(2, (.one (.ptr 2 0))), (4, (.one (.ptr 4 0))), (5, (pI 0))] [(2, (46, (c_3 l))), (4, (43, c_0))] ?_
 refine T.seq (T.sg ?_)
 refine TL.rx 1 [(11, (.agg (c_3 l)))] [] ?_
 refine TL.c (Step.cz (ok_spec_LimitsOk l)) ?_
 refine TL.rl [(13, (pB (!(limOk l))))] [] ?_
 refine T.cn rfl (fun h1 => ?_) (fun h1 => ?_)
 ·refine T.sr [(5, (pI 5))] [(4, (43, c_0))] ?_
  refine T.ret ?_
  rw [decV (l := l) (b := b)]
  exact p_123
 refine T.skip (T.seq (T.sg ?_))
 refine TL.rx 1 [(15, (pS b))] [] ?_
 refine TL.c (Step.ln 5 1 (.ints .u8 b)) ?_
 refine TL.rl [(17, (pB (decide ((b.length : Int) = 0))))] [] ?_
 refine T.ci rfl (fun h2 => ?_) (fun h2 => ?_)
 ·refine T.sr [(5, (pI 1))] [(4, (43, c_0))] ?_
  refine T.ret ?_
  rw [decV (l := l) (b := b)]
  exact p_123
 refine T.skip (T.sg ?_)
 refine TL.rx 1 [(19, (pS b))] [] ?_
 refine TL.c (Step.index (e := 5) (z := 1) (i := 0) rfl rfl (lt_ok rfl) p_6 rfl rfl rfl (lt_ok rfl) rfl p_17 p_39) ?_
 refine TL.c (Step.load (e := (.int .u8 (b.getD 0 0))) rfl rfl (lt_ok rfl) p_6 rfl rfl) ?_
 refine TL.c (Step.conv (c := (b.getD 0 0)) rfl rfl (lt_ok rfl) p_6 p_6 rfl (wrap_ok p_17 p_17)) ?_
 refine TL.rl [(6, (.one (.ptr 6 0)))] [(6, (43, (c_33 b)))] ?_
 refine T.sg ?_
 refine TL.rx 2 [(24, (.agg (c_3 l))), (25, (pS b))] [] ?_
 refine TL.c (Step.callN (f := 17) (xs := [.tmp 24, .tmp 25, .const (.int .i64 1)]) (ps := [(.agg (c_3 l)), (pS b), (pI 1)]) (T := 62) (ds := [(.ints .u8 b), (.int .i64 (rs0 l 1).f0), (.int .i64 (rs0 l 1).f1)]) (g := .func 17) rfl rfl (lt_ok rfl) rfl p_6 rfl (.cons (.agg (.cons (.d _) (.cons (.d _) (.cons (.d _) (.cons (.d _) (.cons (.d _) .nil)))))) (.cons (.one (.d _)) (.cons (.one (.d _)) .nil))) (ok_spec_l11New l b 1) rfl) ?_
 refine TL.rl [(7, (.one (.ptr 26 0)))] [] ?_
 refine T.seq ?_
 refine T.sr [(28, (pI (b.getD 0 0)))] [] ?_
 refine T.block ?_
 refine T.sr [(32, (pB (decide ((b.getD 0 0) = 1))))] [] ?_
 refine T.ci rfl (fun h3 => ?_) (fun h3 => ?_)
 ·refine T.sg ?_
  refine TL.rx 2 [(35, (.agg (c_3 l))), (36, (pS b))] [] ?_
  have nn4 := @getVote_sm l b 1 p_60
  refine TL.c (Step.cz (ok_spec_GetVote l b 1 p_3 p_0)) ?_
  refine TL.rl [(8, (.one (.ptr 8 0))), (9, (pI (aq l b 1).2.1)), (10, (pI (aq l b 1).2.2))] [(8, (26, [cI (aq l b 1).1.f0, cI (aq l b 1).1.f1, .row 3037 [], cI (aq l b 1).1.f3, .row 5037 []]))] ?_
  refine T.sr [] [(6, (43, (c_27 b l)))] ?_
  refine T.sr [] [(26, (62, [cS b, cI (aq l b 1).2.1, cI (rs0 l 1).f1]))] ?_
  refine T.rr [] [(26, (62, [cS b, cI (aq l b 1).2.1, cI (aq l b 1).2.2]))] ?_
  refine T.sg ?_
  refine TL.rx 6 [(87, (.one (.ptr 26 0))), (91, (pI (aq l b 1).2.1)), (92, (pS b))] [] ?_
  refine TL.c (Step.ln 5 1 (.ints .u8 b)) ?_
  refine TL.rx 1 [(94, (pB (decide ((aq l b 1).2.1 ≠ (b.length : Int)))))] [] ?_
  refine TL.c (Step.x2 26 (ok_spec_l11Fail (decide ((aq l b 1).2.1 = (b.length : Int))) b (⟨(aq l b 1).2.1, (aq l b 1).2.2⟩ : SRS) (decide ((aq l b 1).2.1 ≠ (b.length : Int))) 9 p_3 p_0 p_15)) ?_
  refine TL.nil (T.seq ?_)
  refine T.sr [(100, (pB (decide ((ac (⟨(aq l b 1).2.1, (aq l b 1).2.2⟩ : SRS) (decide ((aq l b 1).2.1 = (b.length : Int))) 9).f1 ≠ 0))))] [] ?_
  refine T.ci rfl (fun h5 => ?_) (fun h5 => ?_)
  ·refine T.seq ?_
   refine T.drawX [{ dst := some 101, pv := (.agg c_0) }, { dst := some 102, pv := (.one (.ptr 26 0)) }, { dst := some 103, pv := (.one (.ptr 26 0)) }, { dst := some 104, pv := (.one (.ptr 26 2)) }, { dst := some 105, pv := (pI (ac (⟨(aq l b 1).2.1, (aq l b 1).2.2⟩ : SRS) (decide ((aq l b 1).2.1 = (b.length : Int))) 9).f1) }, { box := some (4, (43, c_0)) }, { dst := some 5, pv := (pI (ac (⟨(aq l b 1).2.1, (aq l b 1).2.2⟩ : SRS) (decide ((aq l b 1).2.1 = (b.length : Int))) 9).f1) }] p_6 p_6 ?_ ?_
   ·refine .sk 7 ?_
    exact .nil _ _
   refine TL.wk [(4, (.one (.ptr 4 0))), (5, (pI (ac (⟨(aq l b 1).2.1, (aq l b 1).2.2⟩ : SRS) (decide ((aq l b 1).2.1 = (b.length : Int))) 9).f1)), (6, (.one (.ptr 6 0)))] [(3037, (5, (.ints .u8 (aq l b 1).1.f2))), (5037, (5, (.ints .u8 (aq l b 1).1.f4)))] [(2, (46, (c_3 l))), (4, (43, c_0)), (6, (43, (c_27 b l))), (26, (62, [cS b, cI (ac (⟨(aq l b 1).2.1, (aq l b 1).2.2⟩ : SRS) (decide ((aq l b 1).2.1 = (b.length : Int))) 9).f0, cI (ac (⟨(aq l b 1).2.1, (aq l b 1).2.2⟩ : SRS) (decide ((aq l b 1).2.1 = (b.length : Int))) 9).f1])), (8, (26, [cI (aq l b 1).1.f0, cI (aq l b 1).1.f1, .row 3037 [], cI (aq l b 1).1.f3, .row 5037 []]))] ?_
   refine TL.nil (T.ret ?_)
   rw [decV (l := l) (b := b)]
   exact p_123
  refine T.skip ?_
  refine T.sr [(5, (pI 0))] [(4, (43, (c_27 b l)))] ?_
  refine T.ret ?_
  rw [decV (l := l) (b := b)]
  exact p_125
 refine T.sr [(51, (pB (decide ((b.getD 0 0) = 2))))] [] ?_
 refine T.ci rfl (fun h6 => ?_) (fun h6 => ?_)
 ·refine T.region ?_
  refine TL.rx 2 [(53, (.one (.ptr 26 0))), (54, (.agg (c_3 l)))] [] ?_
  have nn7 := @rdQc_sm l b (rs0 l 1) p_60
  have nn8 := @rdQc_ok l b (rs0 l 1) p_3
  refine TL.c (Step.x2 26 (ok_spec_l12Get b (rs0 l 1) l p_3 p_0)) ?_
  refine TL.rl [] [(6, (43, (c_28 b l)))] ?_
  refine T.sg ?_
  refine TL.rx 6 [(87, (.one (.ptr 26 0))), (91, (pI (rdQc l b (rs0 l 1)).1.f0)), (92, (pS b))] [] ?_
  refine TL.c (Step.ln 5 1 (.ints .u8 b)) ?_
  refine TL.rx 1 [(94, (pB (decide ((rdQc l b (rs0 l 1)).1.f0 ≠ (b.length : Int)))))] [] ?_
  refine TL.c (Step.x2 26 (ok_spec_l11Fail (decide ((rdQc l b (rs0 l 1)).1.f0 = (b.length : Int))) b (rdQc l b (rs0 l 1)).1 (decide ((rdQc l b (rs0 l 1)).1.f0 ≠ (b.length : Int))) 9 p_3 p_0 p_15)) ?_
  refine TL.nil (T.seq ?_)
  refine T.sr [(100, (pB (decide ((ac (rdQc l b (rs0 l 1)).1 (decide ((rdQc l b (rs0 l 1)).1.f0 = (b.length : Int))) 9).f1 ≠ 0))))] [] ?_
  refine T.ci rfl (fun h9 => ?_) (fun h9 => ?_)
  ·refine T.seq ?_
   refine T.drawX [{ dst := some 101, pv := (.agg c_0) }, { dst := some 102, pv := (.one (.ptr 26 0)) }, { dst := some 103, pv := (.one (.ptr 26 0)) }, { dst := some 104, pv := (.one (.ptr 26 2)) }, { dst := some 105, pv := (pI (ac (rdQc l b (rs0 l 1)).1 (decide ((rdQc l b (rs0 l 1)).1.f0 = (b.length : Int))) 9).f1) }, { box := some (4, (43, c_0)) }, { dst := some 5, pv := (pI (ac (rdQc l b (rs0 l 1)).1 (decide ((rdQc l b (rs0 l 1)).1.f0 = (b.length : Int))) 9).f1) }] p_6 p_6 ?_ ?_
   ·refine .sk 7 ?_
    exact .nil _ _
   refine TL.wk [(4, (.one (.ptr 4 0))), (5, (pI (ac (rdQc l b (rs0 l 1)).1 (decide ((rdQc l b (rs0 l 1)).1.f0 = (b.length : Int))) 9).f1)), (6, (.one (.ptr 6 0)))] [(6055, (5, (.ints .u8 (rdQc l b (rs0 l 1)).2.f2))), (7055, (5, (.ints .u8 (rdQc l b (rs0 l 1)).2.f3))), (8055, (24, (.bss (rdQc l b (rs0 l 1)).2.f4)))] [(2, (46, (c_3 l))), (4, (43, c_0)), (6, (43, (c_28 b l))), (26, (62, [cS b, cI (ac (rdQc l b (rs0 l 1)).1 (decide ((rdQc l b (rs0 l 1)).1.f0 = (b.length : Int))) 9).f0, cI (ac (rdQc l b (rs0 l 1)).1 (decide ((rdQc l b (rs0 l 1)).1.f0 = (b.length : Int))) 9).f1]))] ?_
   refine TL.nil (T.ret ?_)
   rw [decV (l := l) (b := b)]
   exact p_123
  refine T.skip ?_
  refine T.sr [(5, (pI 0))] [(4, (43, (c_28 b l)))] ?_
  refine T.ret ?_
  rw [decV (l := l) (b := b)]
  exact p_127
 refine T.sr [(57, (pB (decide ((b.getD 0 0) = 3))))] [] ?_
 refine T.ci rfl (fun h10 => ?_) (fun h10 => ?_)
 ·refine T.region ?_
  refine TL.rx 2 [(59, (.one (.ptr 26 0))), (60, (.agg (c_3 l)))] [] ?_
  have nn11 := @rdHead_sm l b (rs0 l 1) p_60
  have nn12 := @rdHead_ok l b (rs0 l 1) p_3
  refine TL.c (Step.x2 26 (ok_spec_l13Get b (rs0 l 1) l p_3 p_0)) ?_
  refine TL.rl [] [(6, (43, (c_20 b l)))] ?_
  refine T.sg ?_
  refine TL.rx 6 [(87, (.one (.ptr 26 0))), (91, (pI (af l b (rs0 l 1)).1.f0)), (92, (pS b))] [] ?_
  refine TL.c (Step.ln 5 1 (.ints .u8 b)) ?_
  refine TL.rx 1 [(94, (pB (decide ((af l b (rs0 l 1)).1.f0 ≠ (b.length : Int)))))] [] ?_
  refine TL.c (Step.x2 26 (ok_spec_l11Fail (decide ((af l b (rs0 l 1)).1.f0 = (b.length : Int))) b (af l b (rs0 l 1)).1 (decide ((af l b (rs0 l 1)).1.f0 ≠ (b.length : Int))) 9 p_3 p_0 p_15)) ?_
  refine TL.nil (T.seq ?_)
  refine T.sr [(100, (pB (decide ((ac (af l b (rs0 l 1)).1 (decide ((af l b (rs0 l 1)).1.f0 = (b.length : Int))) 9).f1 ≠ 0))))] [] ?_
  refine T.ci rfl (fun h13 => ?_) (fun h13 => ?_)
  ·refine T.seq ?_
   refine T.drawX [{ dst := some 101, pv := (.agg c_0) }, { dst := some 102, pv := (.one (.ptr 26 0)) }, { dst := some 103, pv := (.one (.ptr 26 0)) }, { dst := some 104, pv := (.one (.ptr 26 2)) }, { dst := some 105, pv := (pI (ac (af l b (rs0 l 1)).1 (decide ((af l b (rs0 l 1)).1.f0 = (b.length : Int))) 9).f1) }, { box := some (4, (43, c_0)) }, { dst := some 5, pv := (pI (ac (af l b (rs0 l 1)).1 (decide ((af l b (rs0 l 1)).1.f0 = (b.length : Int))) 9).f1) }] p_6 p_6 ?_ ?_
   ·refine .sk 7 ?_
    exact .nil _ _
   refine TL.wk [(4, (.one (.ptr 4 0))), (5, (pI (ac (af l b (rs0 l 1)).1 (decide ((af l b (rs0 l 1)).1.f0 = (b.length : Int))) 9).f1)), (6, (.one (.ptr 6 0)))] [(7061, (5, (.ints .u8 (af l b (rs0 l 1)).2.f3))), (8061, (5, (.ints .u8 (af l b (rs0 l 1)).2.f4))), (11061, (5, (.ints .u8 (af l b (rs0 l 1)).2.f5.f2))), (12061, (5, (.ints .u8 (af l b (rs0 l 1)).2.f5.f3))), (13061, (24, (.bss (af l b (rs0 l 1)).2.f5.f4)))] [(2, (46, (c_3 l))), (4, (43, c_0)), (6, (43, (c_20 b l))), (26, (62, [cS b, cI (ac (af l b (rs0 l 1)).1 (decide ((af l b (rs0 l 1)).1.f0 = (b.length : Int))) 9).f0, cI (ac (af l b (rs0 l 1)).1 (decide ((af l b (rs0 l 1)).1.f0 = (b.length : Int))) 9).f1]))] ?_
   refine TL.nil (T.ret ?_)
   rw [decV (l := l) (b := b)]
   exact p_123
  refine T.skip ?_
  refine T.sr [(5, (pI 0))] [(4, (43, (c_20 b l)))] ?_
  refine T.ret ?_
  rw [decV (l := l) (b := b)]
  exact p_128
 refine T.sr [(63, (pB (decide ((b.getD 0 0) = 4))))] [] ?_
 refine T.ci rfl (fun h14 => ?_) (fun h14 => ?_)
 ·refine T.region ?_
  refine TL.rx 2 [(65, (.one (.ptr 26 0))), (66, (.agg (c_3 l)))] [] ?_
  have nn15 := @rdBlock_sm l b (rs0 l 1) p_60 (by first | assumption | exact rs0_zb | exact fun _ => by assumption)
  refine TL.c (Step.x2 26 (ok_spec_l14Get b (rs0 l 1) l p_3 p_0 (by first | assumption | exact rs0_zb | exact fun _ => by assumption))) ?_
  refine TL.rl [] [(6, (43, (c_14 b l)))] ?_
  refine T.sg ?_
  refine TL.rx 6 [(87, (.one (.ptr 26 0))), (91, (pI (am l b (rs0 l 1)).1.f0)), (92, (pS b))] [] ?_
  refine TL.c (Step.ln 5 1 (.ints .u8 b)) ?_
  refine TL.rx 1 [(94, (pB (decide ((am l b (rs0 l 1)).1.f0 ≠ (b.length : Int)))))] [] ?_
  refine TL.c (Step.x2 26 (ok_spec_l11Fail (decide ((am l b (rs0 l 1)).1.f0 = (b.length : Int))) b (am l b (rs0 l 1)).1 (decide ((am l b (rs0 l 1)).1.f0 ≠ (b.length : Int))) 9 p_3 p_0 p_15)) ?_
  refine TL.nil (T.seq ?_)
  refine T.sr [(100, (pB (decide ((ac (am l b (rs0 l 1)).1 (decide ((am l b (rs0 l 1)).1.f0 = (b.length : Int))) 9).f1 ≠ 0))))] [] ?_
  refine T.ci rfl (fun h16 => ?_) (fun h16 => ?_)
  ·refine T.seq ?_
   refine T.drawX [{ dst := some 101, pv := (.agg c_0) }, { dst := some 102, pv := (.one (.ptr 26 0)) }, { dst := some 103, pv := (.one (.ptr 26 0)) }, { dst := some 104, pv := (.one (.ptr 26 2)) }, { dst := some 105, pv := (pI (ac (am l b (rs0 l 1)).1 (decide ((am l b (rs0 l 1)).1.f0 = (b.length : Int))) 9).f1) }, { box := some (4, (43, c_0)) }, { dst := some 5, pv := (pI (ac (am l b (rs0 l 1)).1 (decide ((am l b (rs0 l 1)).1.f0 = (b.length : Int))) 9).f1) }] p_6 p_6 ?_ ?_
   ·refine .sk 7 ?_
    exact .nil _ _
   refine TL.wk [(4, (.one (.ptr 4 0))), (5, (pI (ac (am l b (rs0 l 1)).1 (decide ((am l b (rs0 l 1)).1.f0 = (b.length : Int))) 9).f1)), (6, (.one (.ptr 6 0)))] [(7067, (5, (.ints .u8 (am l b (rs0 l 1)).2.f0.f3))), (8067, (5, (.ints .u8 (am l b (rs0 l 1)).2.f0.f4))), (11067, (5, (.ints .u8 (am l b (rs0 l 1)).2.f0.f5.f2))), (12067, (5, (.ints .u8 (am l b (rs0 l 1)).2.f0.f5.f3))), (13067, (24, (.bss (am l b (rs0 l 1)).2.f0.f5.f4))), (14067, (24, (.bss (am l b (rs0 l 1)).2.f1)))] [(2, (46, (c_3 l))), (4, (43, c_0)), (6, (43, (c_14 b l))), (26, (62, [cS b, cI (ac (am l b (rs0 l 1)).1 (decide ((am l b (rs0 l 1)).1.f0 = (b.length : Int))) 9).f0, cI (ac (am l b (rs0 l 1)).1 (decide ((am l b (rs0 l 1)).1.f0 = (b.length : Int))) 9).f1]))] ?_
   refine TL.nil (T.ret ?_)
   rw [decV (l := l) (b := b)]
   exact p_123
  refine T.skip ?_
  refine T.sr [(5, (pI 0))] [(4, (43, (c_14 b l)))] ?_
  refine T.ret ?_
  rw [decV (l := l) (b := b)]
  exact p_129
 refine T.sr [(69, (pB (decide ((b.getD 0 0) = 5))))] [] ?_
 refine T.ci rfl (fun h17 => ?_) (fun h17 => ?_)
 ·refine T.region ?_
  refine TL.rx 2 [(71, (.one (.ptr 26 0))), (72, (.agg (c_3 l)))] [] ?_
  have nn18 := @rdTc_sm l b (rs0 l 1) p_60 (by first | assumption | exact rs0_z' | exact fun _ => by assumption)
  refine TL.c (Step.x2 26 (ok_spec_l15Get b (rs0 l 1) l p_3 p_0 (by first | assumption | exact rs0_z' | exact fun _ => by assumption))) ?_
  refine TL.rl [] [(6, (43, (c_30 b l)))] ?_
  refine T.sg ?_
  refine TL.rx 6 [(87, (.one (.ptr 26 0))), (91, (pI (rdTc l b (rs0 l 1)).1.f0)), (92, (pS b))] [] ?_
  refine TL.c (Step.ln 5 1 (.ints .u8 b)) ?_
  refine TL.rx 1 [(94, (pB (decide ((rdTc l b (rs0 l 1)).1.f0 ≠ (b.length : Int)))))] [] ?_
  refine TL.c (Step.x2 26 (ok_spec_l11Fail (decide ((rdTc l b (rs0 l 1)).1.f0 = (b.length : Int))) b (rdTc l b (rs0 l 1)).1 (decide ((rdTc l b (rs0 l 1)).1.f0 ≠ (b.length : Int))) 9 p_3 p_0 p_15)) ?_
  refine TL.nil (T.seq ?_)
  refine T.sr [(100, (pB (decide ((ac (rdTc l b (rs0 l 1)).1 (decide ((rdTc l b (rs0 l 1)).1.f0 = (b.length : Int))) 9).f1 ≠ 0))))] [] ?_
  refine T.ci rfl (fun h19 => ?_) (fun h19 => ?_)
  ·refine T.seq ?_
   refine T.drawX [{ dst := some 101, pv := (.agg c_0) }, { dst := some 102, pv := (.one (.ptr 26 0)) }, { dst := some 103, pv := (.one (.ptr 26 0)) }, { dst := some 104, pv := (.one (.ptr 26 2)) }, { dst := some 105, pv := (pI (ac (rdTc l b (rs0 l 1)).1 (decide ((rdTc l b (rs0 l 1)).1.f0 = (b.length : Int))) 9).f1) }, { box := some (4, (43, c_0)) }, { dst := some 5, pv := (pI (ac (rdTc l b (rs0 l 1)).1 (decide ((rdTc l b (rs0 l 1)).1.f0 = (b.length : Int))) 9).f1) }] p_6 p_6 ?_ ?_
   ·refine .sk 7 ?_
    exact .nil _ _
   refine TL.wk [(4, (.one (.ptr 4 0))), (5, (pI (ac (rdTc l b (rs0 l 1)).1 (decide ((rdTc l b (rs0 l 1)).1.f0 = (b.length : Int))) 9).f1)), (6, (.one (.ptr 6 0)))] [(5073, (111, (.sl 3 ((rdTc l b (rs0 l 1)).2.f1.map SEntry.cells))))] [(2, (46, (c_3 l))), (4, (43, c_0)), (6, (43, (c_30 b l))), (26, (62, [cS b, cI (ac (rdTc l b (rs0 l 1)).1 (decide ((rdTc l b (rs0 l 1)).1.f0 = (b.length : Int))) 9).f0, cI (ac (rdTc l b (rs0 l 1)).1 (decide ((rdTc l b (rs0 l 1)).1.f0 = (b.length : Int))) 9).f1]))] ?_
   refine TL.nil (T.ret ?_)
   rw [decV (l := l) (b := b)]
   exact p_123
  refine T.skip ?_
  refine T.sr [(5, (pI 0))] [(4, (43, (c_30 b l)))] ?_
  refine T.ret ?_
  rw [decV (l := l) (b := b)]
  exact p_130
 refine T.sr [(75, (pB (decide ((b.getD 0 0) = 6))))] [] ?_
 refine T.ci rfl (fun h20 => ?_) (fun h20 => ?_)
 ·refine T.region ?_
  refine TL.rx 2 [(77, (.one (.ptr 26 0))), (78, (.agg (c_3 l)))] [] ?_
  have nn21 := @rdProof_sm l b (rs0 l 1) p_60 p_118
  refine TL.c (Step.x2 26 (ok_spec_l16Get b (rs0 l 1) l p_3 p_0 p_118)) ?_
  refine TL.rl [] [(6, (43, (c_26 b l)))] ?_
  refine T.sg ?_
  refine TL.rx 6 [(87, (.one (.ptr 26 0))), (91, (pI (au l b (rs0 l 1)).1.f0)), (92, (pS b))] [] ?_
  refine TL.c (Step.ln 5 1 (.ints .u8 b)) ?_
  refine TL.rx 1 [(94, (pB (decide ((au l b (rs0 l 1)).1.f0 ≠ (b.length : Int)))))] [] ?_
  refine TL.c (Step.x2 26 (ok_spec_l11Fail (decide ((au l b (rs0 l 1)).1.f0 = (b.length : Int))) b (au l b (rs0 l 1)).1 (decide ((au l b (rs0 l 1)).1.f0 ≠ (b.length : Int))) 9 p_3 p_0 p_15)) ?_
  refine TL.nil (T.seq ?_)
  refine T.sr [(100, (pB (decide ((ac (au l b (rs0 l 1)).1 (decide ((au l b (rs0 l 1)).1.f0 = (b.length : Int))) 9).f1 ≠ 0))))] [] ?_
  refine T.ci rfl (fun h22 => ?_) (fun h22 => ?_)
  ·refine T.seq ?_
   refine T.drawX [{ dst := some 101, pv := (.agg c_0) }, { dst := some 102, pv := (.one (.ptr 26 0)) }, { dst := some 103, pv := (.one (.ptr 26 0)) }, { dst := some 104, pv := (.one (.ptr 26 2)) }, { dst := some 105, pv := (pI (ac (au l b (rs0 l 1)).1 (decide ((au l b (rs0 l 1)).1.f0 = (b.length : Int))) 9).f1) }, { box := some (4, (43, c_0)) }, { dst := some 5, pv := (pI (ac (au l b (rs0 l 1)).1 (decide ((au l b (rs0 l 1)).1.f0 = (b.length : Int))) 9).f1) }] p_6 p_6 ?_ ?_
   ·refine .sk 7 ?_
    exact .nil _ _
   refine TL.wk [(4, (.one (.ptr 4 0))), (5, (pI (ac (au l b (rs0 l 1)).1 (decide ((au l b (rs0 l 1)).1.f0 = (b.length : Int))) 9).f1)), (6, (.one (.ptr 6 0)))] [(4079, (31, (.sl 10 ((au l b (rs0 l 1)).2.f0.map SHead.cells)))), (7079, (5, (.ints .u8 (au l b (rs0 l 1)).2.f1.f2))), (8079, (5, (.ints .u8 (au l b (rs0 l 1)).2.f1.f3))), (9079, (24, (.bss (au l b (rs0 l 1)).2.f1.f4)))] [(2, (46, (c_3 l))), (4, (43, c_0)), (6, (43, (c_26 b l))), (26, (62, [cS b, cI (ac (au l b (rs0 l 1)).1 (decide ((au l b (rs0 l 1)).1.f0 = (b.length : Int))) 9).f0, cI (ac (au l b (rs0 l 1)).1 (decide ((au l b (rs0 l 1)).1.f0 = (b.length : Int))) 9).f1]))] ?_
   refine TL.nil (T.ret ?_)
   rw [decV (l := l) (b := b)]
   exact p_123
  refine T.skip ?_
  refine T.sr [(5, (pI 0))] [(4, (43, (c_26 b l)))] ?_
  refine T.ret ?_
  rw [decV (l := l) (b := b)]
  exact p_131
 refine T.sr [(81, (pB (decide ((b.getD 0 0) = 7))))] [] ?_
 refine T.ci rfl (fun h23 => ?_) (fun h23 => ?_)
 ·refine T.region ?_
  refine TL.rx 2 [(83, (.one (.ptr 26 0))), (84, (.agg (c_3 l)))] [] ?_
  have nn24 := @rdInclS_sm l b (rs0 l 1) p_60
  refine TL.c (Step.x2 26 (ok_spec_l16GetIncl b (rs0 l 1) l p_3 p_0)) ?_
  refine TL.rl [] [(6, (43, (c_24 b l)))] ?_
  refine T.sg ?_
  refine TL.rx 6 [(87, (.one (.ptr 26 0))), (91, (pI (rdInclS l b (rs0 l 1)).1.f0)), (92, (pS b))] [] ?_
  refine TL.c (Step.ln 5 1 (.ints .u8 b)) ?_
  refine TL.rx 1 [(94, (pB (decide ((rdInclS l b (rs0 l 1)).1.f0 ≠ (b.length : Int)))))] [] ?_
  refine TL.c (Step.x2 26 (ok_spec_l11Fail (decide ((rdInclS l b (rs0 l 1)).1.f0 = (b.length : Int))) b (rdInclS l b (rs0 l 1)).1 (decide ((rdInclS l b (rs0 l 1)).1.f0 ≠ (b.length : Int))) 9 p_3 p_0 p_15)) ?_
  refine TL.nil (T.seq ?_)
  refine T.sr [(100, (pB (decide ((ac (rdInclS l b (rs0 l 1)).1 (decide ((rdInclS l b (rs0 l 1)).1.f0 = (b.length : Int))) 9).f1 ≠ 0))))] [] ?_
  refine T.ci rfl (fun h25 => ?_) (fun h25 => ?_)
  ·refine T.seq ?_
   refine T.drawX [{ dst := some 101, pv := (.agg c_0) }, { dst := some 102, pv := (.one (.ptr 26 0)) }, { dst := some 103, pv := (.one (.ptr 26 0)) }, { dst := some 104, pv := (.one (.ptr 26 2)) }, { dst := some 105, pv := (pI (ac (rdInclS l b (rs0 l 1)).1 (decide ((rdInclS l b (rs0 l 1)).1.f0 = (b.length : Int))) 9).f1) }, { box := some (4, (43, c_0)) }, { dst := some 5, pv := (pI (ac (rdInclS l b (rs0 l 1)).1 (decide ((rdInclS l b (rs0 l 1)).1.f0 = (b.length : Int))) 9).f1) }] p_6 p_6 ?_ ?_
   ·refine .sk 7 ?_
    exact .nil _ _
   refine TL.wk [(4, (.one (.ptr 4 0))), (5, (pI (ac (rdInclS l b (rs0 l 1)).1 (decide ((rdInclS l b (rs0 l 1)).1.f0 = (b.length : Int))) 9).f1)), (6, (.one (.ptr 6 0)))] [(7085, (5, (.ints .u8 (rdInclS l b (rs0 l 1)).2.f3))), (8085, (24, (.bss (rdInclS l b (rs0 l 1)).2.f4)))] [(2, (46, (c_3 l))), (4, (43, c_0)), (6, (43, (c_24 b l))), (26, (62, [cS b, cI (ac (rdInclS l b (rs0 l 1)).1 (decide ((rdInclS l b (rs0 l 1)).1.f0 = (b.length : Int))) 9).f0, cI (ac (rdInclS l b (rs0 l 1)).1 (decide ((rdInclS l b (rs0 l 1)).1.f0 = (b.length : Int))) 9).f1]))] ?_
   refine TL.nil (T.ret ?_)
   rw [decV (l := l) (b := b)]
   exact p_123
  refine T.skip ?_
  refine T.sr [(5, (pI 0))] [(4, (43, (c_24 b l)))] ?_
  refine T.ret ?_
  rw [decV (l := l) (b := b)]
  exact p_126
 refine T.rr [] [(26, (62, [cS b, cI (rs0 l 1).f0, cI 8]))] ?_
 refine T.sg ?_
 refine TL.rx 6 [(87, (.one (.ptr 26 0))), (91, (pI (rs0 l 1).f0)), (92, (pS b))] [] ?_
 refine TL.c (Step.ln 5 1 (.ints .u8 b)) ?_
 refine TL.rx 1 [(94, (pB (decide ((rs0 l 1).f0 ≠ (b.length : Int)))))] [] ?_
 refine TL.c (Step.x2 26 (ok_spec_l11Fail (decide ((rs0 l 1).f0 = (b.length : Int))) b (⟨(rs0 l 1).f0, 8⟩ : SRS) (decide ((rs0 l 1).f0 ≠ (b.length : Int))) 9 p_3 p_0 p_15)) ?_
 refine TL.nil (T.seq (T.sg ?_))
 refine TL.rx 5 [(100, (pB (decide ((ac (⟨(rs0 l 1).f0, 8⟩ : SRS) (decide ((rs0 l 1).f0 = (b.length : Int))) 9).f1 ≠ 0))))] [] ?_
 refine TL.known 100 (c := true) (decide_eq_true (by rw [rdMust_er (show ¬ (8 : Int) = 0 by decide)]; exact (show (8 : Int) ≠ 0 by decide))) rfl ?_
 refine TL.nil (T.ct (T.seq ?_))
 refine T.drawX [{ dst := some 101, pv := (.agg c_0) }, { dst := some 102, pv := (.one (.ptr 26 0)) }, { dst := some 103, pv := (.one (.ptr 26 0)) }, { dst := some 104, pv := (.one (.ptr 26 2)) }, { dst := some 105, pv := (pI (ac (⟨(rs0 l 1).f0, 8⟩ : SRS) (decide ((rs0 l 1).f0 = (b.length : Int))) 9).f1) }, { box := some (4, (43, c_0)) }, { dst := some 5, pv := (pI (ac (⟨(rs0 l 1).f0, 8⟩ : SRS) (decide ((rs0 l 1).f0 = (b.length : Int))) 9).f1) }] p_6 p_6 ?_ ?_
 ·refine .sk 7 ?_
  exact .nil _ _
 refine TL.wk [(4, (.one (.ptr 4 0))), (5, (pI (ac (⟨(rs0 l 1).f0, 8⟩ : SRS) (decide ((rs0 l 1).f0 = (b.length : Int))) 9).f1)), (6, (.one (.ptr 6 0)))] [] [(2, (46, (c_3 l))), (4, (43, c_0)), (6, (43, (c_33 b))), (26, (62, [cS b, cI (ac (⟨(rs0 l 1).f0, 8⟩ : SRS) (decide ((rs0 l 1).f0 = (b.length : Int))) 9).f0, cI (ac (⟨(rs0 l 1).f0, 8⟩ : SRS) (decide ((rs0 l 1).f0 = (b.length : Int))) 9).f1]))] ?_
 refine TL.nil (T.ret ?_)
 rw [decV (l := l) (b := b)]
 exact p_123
theorem ok_laws_toLimits (a : SLimits) : RO Tryz.prog 6 [.agg a.cells] [(true, [.rd (.int .i64 a.f0), .rd (.int .i64 a.f1), .rd (.int .i64 a.f2), .rd (.int .i64 a.f3), .rd (.int .i64 a.f4)])] := by
 refine RO.intro Tryz.func6 rfl 20 rfl (le_ok rfl) fun w Z => ?_
 refine T.sr [(1, (.one (.ptr 1 0))), (2, (.one (.ptr 2 0)))] [(1, (23, [cI a.f0, cI a.f1, cI a.f2, cI a.f3, cI a.f4])), (2, (46, [cI 0, cI 0, cI 0, cI 0, cI 0]))] ?_
 refine T.sr [(3, (.one (.ptr 3 0)))] [(3, (46, [cI 0, cI 0, cI 0, cI 0, cI 0]))] ?_
 refine T.sr [] [(3, (46, [cI a.f0, cI 0, cI 0, cI 0, cI 0]))] ?_
 refine T.sr [] [(3, (46, [cI a.f0, cI a.f1, cI 0, cI 0, cI 0]))] ?_
 refine T.sr [] [(3, (46, [cI a.f0, cI a.f1, cI a.f2, cI 0, cI 0]))] ?_
 refine T.sr [] [(3, (46, [cI a.f0, cI a.f1, cI a.f2, cI a.f3, cI 0]))] ?_
 refine T.sr [] [(3, (46, [cI a.f0, cI a.f1, cI a.f2, cI a.f3, cI a.f4]))] ?_
 refine T.sr [] [(2, (46, [cI a.f0, cI a.f1, cI a.f2, cI a.f3, cI a.f4]))] ?_
 refine T.ret ?_
 exact ⟨_, (.cons rfl .nil), rfl, _, (.r rfl (.r rfl (.r rfl (.r rfl (.r rfl .nil)))))⟩
theorem ok_laws_toByteS (a : List Int) (h0_ : a.length ≤ 1048576) : RO Tryz.prog 7 [.one (.ints .u8 a)] [(false, [.own 5 (.ints .u8 a)])] := by
 refine RO.intro Tryz.func7 rfl 22 rfl (le_ok rfl) fun w Z => ?_
 refine T.bnd 0 0 rfl rfl fun hb_0_0 => ?_
 simp only [D.size, List.length_map] at hb_0_0
 have h0b := h0_
 refine T.sr [(2, (.one (.nil)))] [] ?_
 refine T.sg ?_
 refine TL.rx 1 [(5, (pS a))] [] ?_
 refine TL.c (Step.ln 5 1 (.ints .u8 a)) ?_
 refine TL.c (Step.make (e := 5) (z := 1) (by_ := 1) (n := (a.length : Int)) (zs := [.int .u8 0]) (zd := [.int .u8 0]) (d := (.ints .u8 (List.replicate a.length 0))) rfl rfl (lt_ok rfl) p_6 (lt_ok rfl) rfl p_17 p_17 p_17 p_6 (.val rfl .nil) rfl p_104 (by simp [D.flat, List.flatten_replicate_singleton]) p_120 rfl trivial) ?_
 refine TL.rl [(3, (.one (.row 7 [])))] [] ?_
 refine T.seq ?_
 refine T.sr [(4, (pI 0))] [] ?_
 refine T.block ?_
 refine T.loop (ι := Nat) (fun xx_ => { tm := [(0, (pS a)), (2, (.one (.nil))), (3, (.one (.row 7 []))), (4, (pI (xx_ : Int)))], rows := [(7, (5, (.ints .u8 (a.take xx_ ++ List.replicate (a.length - xx_) 0 : List Int))))], boxes := [] }) (fun xx_ => xx_ ≤ a.length) (fun xx_ => a.length - xx_) 0 ?_ ?_ ?_
 · refine Env.le_mk ⟨rfl, rfl, rfl, ?_, trivial⟩ ⟨?_, trivial⟩ trivial <;> (first | rfl | exact congrArg (fun x => some (5, ((.ints .u8 x) : D))) (fill_set a 0 0 i p_4))
 · exact Nat.zero_le _
 intro i hx
 try dsimp only at hx ⊢
 refine T.seq (T.sg ?_)
 refine TL.rx 2 [(8, (pI (i : Int))), (9, (pS a))] [] ?_
 refine TL.c (Step.ln 5 1 (.ints .u8 a)) ?_
 refine TL.rl [(11, (pB (decide ((i : Int) < (a.length : Int)))))] [] ?_
 refine T.ci rfl (fun h1 => ?_) (fun h1 => ?_)
 ·refine T.skip (T.seq (T.block (T.region ?_)))
  refine TL.rx 4 [(14, (.one (.row 7 []))), (15, (pI (i : Int))), (16, (pS a)), (17, (pI (i : Int)))] [] ?_
  refine TL.c (Step.index (e := 5) (z := 1) (i := (i : Int)) rfl rfl (lt_ok rfl) p_6 rfl rfl rfl (lt_ok rfl) rfl p_17 p_39) ?_
  refine TL.c (Step.load (e := (.int .u8 (a.getD i 0))) rfl rfl (lt_ok rfl) p_6 rfl rfl) ?_
  refine TL.c (Step.index_row (e := 5) (z := 1) (i := (i : Int)) rfl rfl (lt_ok rfl) p_6 rfl rfl rfl rfl (lt_ok rfl) rfl p_17 p_112) ?_
  refine TL.c (Step.store_row (n := 1) (p := (.one (.d (.int .u8 (a.getD i 0))))) (ps := [.d (.int .u8 (a.getD i 0))]) (es := [(.int .u8 (a.getD i 0))]) (ss := []) (d1 := (.ints .u8 ((a.take i ++ List.replicate (a.length - i) 0 : List Int).set i (a.getD i 0)))) (d' := (.ints .u8 ((a.take i ++ List.replicate (a.length - i) 0 : List Int).set i (a.getD i 0)))) rfl rfl p_6 rfl rfl rfl rfl rfl rfl (.val rfl .nil) p_104 (Putd.one rfl trivial rfl (by simp only [D.at_, D.size, List.length_set, upTo_length]; first | omega | (simp; omega)) (lt_ok rfl)) rfl) ?_
  refine TL.nil (T.region ?_)
  refine TL.rx 1 [(12, (pI (i : Int)))] [] ?_
  refine TL.ad ((i : Int) + 1) ?_
  refine TL.rl [(4, (pI ((i : Int) + 1)))] [] ?_
  refine ⟨i + 1, by omega, by omega, Env.le_mk ⟨rfl, rfl, rfl, ?_, trivial⟩ ⟨?_, trivial⟩ trivial⟩ <;> (first | rfl | exact congrArg (fun x => some (5, ((.ints .u8 x) : D))) (fill_set a 0 0 i p_4))
 refine T.exit ?_
 refine T.sr [(2, (.one (.row 7 [])))] [] ?_
 refine T.ret ?_
 refine ⟨_, (.cons rfl .nil), rfl, _, (.o ?_ .nil)⟩ <;> (first | rfl | (congr 1; rw [fill_all' _ _ _ p_4]) | (rw [fill_all' _ _ _ p_4]))
theorem ok_impl_within (n : Int) (low : Int) (high : Int) : RO Tryz.prog 70 [.one (.int .i64 n), .one (.int .i64 low), .one (.int .i64 high)] [(false, [.rd (.bool (decide (low ≤ n ∧ n ≤ high)))])] := by
 refine RO.intro Tryz.func70 rfl 15 rfl (le_ok rfl) fun w Z => ?_
 refine T.sr [(6, (pB false))] [] ?_
 refine T.sg ?_
 refine TL.rx 4 [(10, (pB (decide (low ≤ n))))] [] ?_
 rcases Bool.eq_false_or_eq_true (decide (low ≤ n)) with hb1 | hb1
 ·refine TL.known 10 hb1 rfl ?_
  refine TL.rl [(6, (pB (decide (n ≤ high))))] [] ?_
  refine T.ret ?_
  exact p_165
 refine TL.known 10 hb1 rfl ?_
 refine TL.rl [(6, (pB false))] [] ?_
 refine T.ret ?_
 exact p_165
theorem ok_impl_LimitsOk (l : SLimits) : RO Tryz.prog 26 [.agg l.cells] [(false, [.rd (.bool (limOk l))])] := by
 refine RO.intro Tryz.func26 rfl 26 rfl (le_ok rfl) fun w Z => ?_
 refine T.sr [(1, (.one (.ptr 1 0))), (2, (pB false))] [(1, (46, (c_3 l)))] ?_
 refine T.sg ?_
 refine TL.rx 2 [(4, (pI l.f0))] [] ?_
 refine TL.c (Step.cz (ok_impl_within l.f0 1 10)) ?_
 refine TL.rx 1 [(6, (pB (decide (1 ≤ l.f0 ∧ l.f0 ≤ 10))))] [] ?_
 rcases Bool.eq_false_or_eq_true (decide (1 ≤ l.f0 ∧ l.f0 ≤ 10)) with hb1 | hb1
 ·refine TL.known 6 hb1 rfl ?_
  refine TL.rx 2 [(8, (pI l.f1))] [] ?_
  refine TL.gy 6 (Step.cz (ok_impl_within l.f1 0 40)) ?_
  refine TL.rx 2 [(11, (pB (decide (0 ≤ l.f1 ∧ l.f1 ≤ 40))))] [] ?_
  rcases Bool.eq_false_or_eq_true (decide (0 ≤ l.f1 ∧ l.f1 ≤ 40)) with hb2 | hb2
  ·refine TL.known 11 hb2 rfl ?_
   refine TL.rx 2 [(13, (pI l.f2))] [] ?_
   refine TL.gy 11 (Step.cz (ok_impl_within l.f2 0 8)) ?_
   refine TL.rx 2 [(16, (pB (decide (0 ≤ l.f2 ∧ l.f2 ≤ 8))))] [] ?_
   rcases Bool.eq_false_or_eq_true (decide (0 ≤ l.f2 ∧ l.f2 ≤ 8)) with hb3 | hb3
   ·refine TL.known 16 hb3 rfl ?_
    refine TL.rx 2 [(18, (pI l.f3))] [] ?_
    refine TL.gy 16 (Step.cz (ok_impl_within l.f3 1 4000)) ?_
    refine TL.rx 2 [(21, (pB (decide (1 ≤ l.f3 ∧ l.f3 ≤ 4000))))] [] ?_
    rcases Bool.eq_false_or_eq_true (decide (1 ≤ l.f3 ∧ l.f3 ≤ 4000)) with hb4 | hb4
    ·refine TL.known 21 hb4 rfl ?_
     refine TL.rx 2 [(23, (pI l.f4))] [] ?_
     refine TL.gy 21 (Step.cz (ok_impl_within l.f4 3 5)) ?_
     refine TL.rl [(2, (pB (decide (3 ≤ l.f4 ∧ l.f4 ≤ 5))))] [] ?_
     refine T.ret ?_
     exact p_136
    refine TL.known 21 hb4 rfl ?_
    refine TL.rl [(2, (pB false))] [] ?_
    refine T.ret ?_
    exact p_136
   refine TL.known 16 hb3 rfl ?_
   refine TL.rl [(2, (pB false))] [] ?_
   refine T.ret ?_
   exact p_136
  refine TL.known 11 hb2 rfl ?_
  refine TL.rl [(2, (pB false))] [] ?_
  refine T.ret ?_
  exact p_136
 refine TL.known 6 hb1 rfl ?_
 refine TL.rl [(2, (pB false))] [] ?_
 refine T.ret ?_
 exact p_136
theorem ok_impl_nameAt (k : Int) (ns : List SStr) (h0_ : ns.length ≤ 1048576) (h1_ : I64 k) : RO Tryz.prog 71 [.one (.int .i64 k), .one (.sl 1 (ns.map SStr.cells))] [(false, [.rd (.str (nameW k ns))])] := by
 refine RO.intro Tryz.func71 rfl 15 rfl (le_ok rfl) fun w Z => ?_
 refine T.bnd 1 0 rfl rfl fun hb_1_0 => ?_
 simp only [D.size, List.length_map] at hb_1_0
 refine T.sr [(4, (.one (.d (.str ByteArray.empty))))] [] ?_
 refine T.seq (T.sg ?_)
 refine TL.rx 2 [(5, (pI k)), (6, (.one (.d (.sl 1 (ns.map SStr.cells)))))] [] ?_
 refine TL.c (Step.len' (e := 9) (z := 1) (d := (.sl 1 (ns.map SStr.cells))) (n := ns.length) rfl rfl (lt_ok rfl) p_6 rfl rfl p_120) ?_
 refine TL.sb ((ns.length : Int) - 1) ?_
 refine TL.c (Step.cz (ok_impl_within k 0 ((ns.length : Int) - 1))) ?_
 refine TL.rl [(10, (pB (!(decide (0 ≤ k ∧ k ≤ ((ns.length : Int) - 1))))))] [] ?_
 refine T.cni rfl (fun h1 => ?_) (fun h1 => ?_)
 ·refine T.sr [(4, (.one (.d (.str ByteArray.empty))))] [] ?_
  refine T.ret ?_
  exact p_159
 refine T.skip (T.sg ?_)
 refine TL.rx 2 [(11, (.one (.d (.sl 1 (ns.map SStr.cells))))), (12, (pI k))] [] ?_
 refine TL.c (Step.index (e := 9) (z := 1) (i := k) rfl rfl (lt_ok rfl) p_6 rfl rfl rfl (lt_ok rfl) rfl p_17 p_39) ?_
 refine TL.c (Step.load (e := (.str (ns.getD (k).toNat default).f0)) rfl rfl (lt_ok rfl) p_6 rfl ((cell_map default p_17).trans rfl)) ?_
 refine TL.rl [(4, (.one (.d (.str (ns.getD (k).toNat default).f0))))] [] ?_
 refine T.ret ?_
 exact p_159
theorem ok_impl_KindName (k : Int) (h0_ : I64 k) : RO Tryz.prog 27 [.one (.int .i64 k)] [(false, [.rd (.str (nameW k kindNs))])] := by
 refine RO.intro Tryz.func27 rfl 6 rfl (le_ok rfl) fun w Z => ?_
 refine T.sr [(2, (.one (.d (.str ByteArray.empty))))] [] ?_
 refine T.sg ?_
 refine TL.rx 1 [(3, (pI k))] [] ?_
 refine TL.c (Step.lt 9 1 16 [.const (.string ByteArray.empty), .const (.string (⟨#[118, 111, 116, 101]⟩ : ByteArray)), .const (.string (⟨#[113, 99]⟩ : ByteArray)), .const (.string (⟨#[104, 101, 97, 100]⟩ : ByteArray)), .const (.string (⟨#[98, 108, 111, 99, 107]⟩ : ByteArray)), .const (.string (⟨#[116, 99]⟩ : ByteArray)), .const (.string (⟨#[112, 114, 111, 111, 102]⟩ : ByteArray)), .const (.string (⟨#[105, 110, 99, 108]⟩ : ByteArray))] [[.d (.str ByteArray.empty)], [.d (.str (⟨#[118, 111, 116, 101]⟩ : ByteArray))], [.d (.str (⟨#[113, 99]⟩ : ByteArray))], [.d (.str (⟨#[104, 101, 97, 100]⟩ : ByteArray))], [.d (.str (⟨#[98, 108, 111, 99, 107]⟩ : ByteArray))], [.d (.str (⟨#[116, 99]⟩ : ByteArray))], [.d (.str (⟨#[112, 114, 111, 111, 102]⟩ : ByteArray))], [.d (.str (⟨#[105, 110, 99, 108]⟩ : ByteArray))]] (.sl 1 ([(⟨ByteArray.empty⟩ : SStr), (⟨(⟨#[118, 111, 116, 101]⟩ : ByteArray)⟩ : SStr), (⟨(⟨#[113, 99]⟩ : ByteArray)⟩ : SStr), (⟨(⟨#[104, 101, 97, 100]⟩ : ByteArray)⟩ : SStr), (⟨(⟨#[98, 108, 111, 99, 107]⟩ : ByteArray)⟩ : SStr), (⟨(⟨#[116, 99]⟩ : ByteArray)⟩ : SStr), (⟨(⟨#[112, 114, 111, 111, 102]⟩ : ByteArray)⟩ : SStr), (⟨(⟨#[105, 110, 99, 108]⟩ : ByteArray)⟩ : SStr)].map SStr.cells)) (hw := (wf_map SStr.len _))) ?_
 refine TL.c (Step.cz (ok_impl_nameAt k [(⟨ByteArray.empty⟩ : SStr), (⟨(⟨#[118, 111, 116, 101]⟩ : ByteArray)⟩ : SStr), (⟨(⟨#[113, 99]⟩ : ByteArray)⟩ : SStr), (⟨(⟨#[104, 101, 97, 100]⟩ : ByteArray)⟩ : SStr), (⟨(⟨#[98, 108, 111, 99, 107]⟩ : ByteArray)⟩ : SStr), (⟨(⟨#[116, 99]⟩ : ByteArray)⟩ : SStr), (⟨(⟨#[112, 114, 111, 111, 102]⟩ : ByteArray)⟩ : SStr), (⟨(⟨#[105, 110, 99, 108]⟩ : ByteArray)⟩ : SStr)] (by first | assumption | (simp; done) | omega) (by first | assumption | exact ⟨by omega, by omega⟩))) ?_
 refine TL.rl [(2, (.one (.d (.str (nameW k [(⟨ByteArray.empty⟩ : SStr), (⟨(⟨#[118, 111, 116, 101]⟩ : ByteArray)⟩ : SStr), (⟨(⟨#[113, 99]⟩ : ByteArray)⟩ : SStr), (⟨(⟨#[104, 101, 97, 100]⟩ : ByteArray)⟩ : SStr), (⟨(⟨#[98, 108, 111, 99, 107]⟩ : ByteArray)⟩ : SStr), (⟨(⟨#[116, 99]⟩ : ByteArray)⟩ : SStr), (⟨(⟨#[112, 114, 111, 111, 102]⟩ : ByteArray)⟩ : SStr), (⟨(⟨#[105, 110, 99, 108]⟩ : ByteArray)⟩ : SStr)])))))] [] ?_
 refine T.ret ?_
 refine ⟨_, (.cons rfl .nil), rfl, _, (.r ?_ .nil)⟩ <;> exact p_122
theorem ok_impl_isNum (n : Int) : RO Tryz.prog 149 [.one (.int .i64 n)] [(false, [.rd (.bool (decide (0 ≤ n ∧ n ≤ 1152921504606846975)))])] := by
 refine RO.intro Tryz.func149 rfl 5 rfl (le_ok rfl) fun w Z => ?_
 refine T.sr [(2, (pB false))] [] ?_
 refine T.sg ?_
 refine TL.rx 1 [(3, (pI n))] [] ?_
 refine TL.c (Step.cz (ok_impl_within n 0 1152921504606846975)) ?_
 refine TL.rl [(2, (pB (decide (0 ≤ n ∧ n ≤ 1152921504606846975))))] [] ?_
 refine T.ret ?_
 exact ⟨_, (.cons rfl .nil), rfl, _, (.r rfl .nil)⟩
theorem ok_impl_GetVar (b : List Int) (a : Int) (h0_ : U8s b) (h1_ : b.length ≤ 1099511627776) : RO Tryz.prog 133 [.one (.ints .u8 b), .one (.int .i64 a)] [(false, [.rd (.int .i64 (getVar b a).1)]), (false, [.rd (.int .i64 (getVar b a).2.1)]), (false, [.rd (.int .i64 (getVar b a).2.2)])] := by
 refine RO.intro Tryz.func133 rfl 61 rfl (le_ok rfl) fun w Z => ?_
 refine T.bnd 0 0 rfl rfl fun hb_0_0 => ?_
 simp only [D.size, List.length_map] at hb_0_0
 refine T.sr [(4, (pI 0)), (5, (pI 0)), (6, (pI 0))] [] ?_
 refine T.seq (T.sg ?_)
 refine TL.rx 2 [(10, (pI a)), (11, (pS b))] [] ?_
 refine TL.c (Step.ln 5 1 (.ints .u8 b)) ?_
 refine TL.c (Step.cz (ok_impl_within a 0 (b.length : Int))) ?_
 refine TL.rl [(14, (pB (!(decide (0 ≤ a ∧ a ≤ (b.length : Int))))))] [] ?_
 refine T.cni rfl (fun h1 => ?_) (fun h1 => ?_)
 ·refine T.sr [(4, (pI 0)), (5, (pI 0)), (6, (pI 1))] [] ?_
  refine T.ret ?_
  exact p_124
 refine T.skip ?_
 refine T.sr [(7, (pI 0))] [] ?_
 refine T.sr [(8, (pI 0))] [] ?_
 refine T.block ?_
 refine T.loop (ι := Nat × Int) (fun xx_ => { tm := [(0, (pS b)), (1, (pI a)), (8, (pI ((xx_.1) : Int))), (7, (pI (xx_.2)))], rows := [], boxes := [] }) (fun xx_ => (xx_.1) ≤ 8 ∧ 0 ≤ (xx_.2) ∧ (xx_.2) < 128 ^ (xx_.1) ∧ gvGo b a (9 - (xx_.1)) (xx_.1) (xx_.2) = gvGo b a 9 0 0) (fun xx_ => 9 - (xx_.1)) (0, 0) ?_ ?_ ?_
 · refine Env.le_mk ⟨rfl, rfl, ?_, ?_, trivial⟩ trivial trivial <;> exact p_22
 · (dsimp only; refine ⟨by omega, by omega, by simp, rfl⟩)
 intro xx_ hx
 obtain ⟨i, n⟩ := xx_
 try dsimp only at hx ⊢
 obtain ⟨hx1, hx2, hx3, hx4⟩ := hx
 have hu_ := getD_u8 h0_ (a + (i : Int)).toNat
 have hm_ := gv_mul hu_.1 i
 have hp_ := pow128 (i := i) p_4
 refine T.seq (T.block (T.seq (T.sg ?_)))
 refine TL.rx 2 [(17, (pI a)), (18, (pI (i : Int)))] [] ?_
 refine TL.ad (a + (i : Int)) ?_
 refine TL.rx 1 [(20, (pS b))] [] ?_
 refine TL.c (Step.ln 5 1 (.ints .u8 b)) ?_
 refine TL.rl [(22, (pB (decide ((b.length : Int) ≤ (a + (i : Int))))))] [] ?_
 refine T.ci rfl (fun h2 => ?_) (fun h2 => ?_)
 ·refine T.sr [(4, (pI 0)), (5, (pI 0)), (6, (pI 1))] [] ?_
  refine T.ret ?_
  exact p_124
 refine T.skip (T.sg ?_)
 refine TL.rx 3 [(23, (pS b)), (24, (pI a)), (25, (pI (i : Int)))] [] ?_
 refine TL.ad (a + (i : Int)) ?_
 refine TL.c (Step.index (e := 5) (z := 1) (i := (a + (i : Int))) rfl rfl (lt_ok rfl) p_6 rfl rfl rfl (lt_ok rfl) rfl p_17 p_39) ?_
 refine TL.c (Step.load (e := (.int .u8 (b.getD (a + (i : Int)).toNat 0))) rfl rfl (lt_ok rfl) p_6 rfl rfl) ?_
 refine TL.rl [(9, (.one (.d (.int .u8 (b.getD (a + (i : Int)).toNat 0)))))] [] ?_
 refine T.seq (T.sg ?_)
 refine TL.rx 3 [(31, (pB (decide (0 < (i : Int)))))] [] ?_
 rcases Bool.eq_false_or_eq_true (decide (0 < (i : Int))) with hb3 | hb3
 ·refine TL.known 31 hb3 rfl ?_
  have hb3' := hb3
  replace hb3' := of_decide_eq_true hb3'
  refine TL.rx 4 [(35, (pB (decide ((b.getD (a + (i : Int)).toNat 0) = 0))))] [] ?_
  rcases Bool.eq_false_or_eq_true (decide ((b.getD (a + (i : Int)).toNat 0) = 0)) with hb4 | hb4
  ·refine TL.known 35 hb4 rfl ?_
   have hb4' := hb4
   replace hb4' := of_decide_eq_true hb4'
   refine TL.rl [(42, (pB true))] [] ?_
   refine T.ct ?_
   refine T.sr [(4, (pI 0)), (5, (pI 0)), (6, (pI 2))] [] ?_
   refine T.ret ?_
   exact p_124
  refine TL.known 35 hb4 rfl ?_
  have hb4' := hb4
  replace hb4' := of_decide_eq_false hb4'
  refine TL.rx 3 [(38, (pB (decide ((i : Int) = 8))))] [] ?_
  rcases Bool.eq_false_or_eq_true (decide ((i : Int) = 8)) with hb5 | hb5
  ·refine TL.known 38 hb5 rfl ?_
   have hb5' := hb5
   replace hb5' := of_decide_eq_true hb5'
   refine TL.rl [(42, (pB (decide (128 ≤ (b.getD (a + (i : Int)).toNat 0)))))] [] ?_
   refine T.ci rfl (fun h6 => ?_) (fun h6 => ?_)
   ·refine T.sr [(4, (pI 0)), (5, (pI 0)), (6, (pI 2))] [] ?_
    refine T.ret ?_
    exact p_124
   refine T.skip (T.sg ?_)
   refine TL.rx 2 [(43, (pI n)), (44, (.one (.d (.int .u8 (b.getD (a + (i : Int)).toNat 0)))))] [] ?_
   refine TL.c (Step.bin (r := .int .u8 (b.getD (a + (i : Int)).toNat 0 % 128)) rfl rfl (lt_ok rfl) rfl rfl (Bin.and (k := .u8) (a := (b.getD (a + (i : Int)).toNat 0)) (b := 127) (and127 hu_.1 hu_.2))) ?_
   refine TL.c (Step.conv (c := (b.getD (a + (i : Int)).toNat 0 % 128)) rfl rfl (lt_ok rfl) p_6 p_6 rfl (wrap_ok p_17 p_17)) ?_
   refine TL.rx 1 [(47, (pI (i : Int)))] [] ?_
   refine TL.ml (7 * (i : Int)) ?_
   refine TL.c (Step.bin (r := .int .i64 (b.getD (a + (i : Int)).toNat 0 % 128 * 128 ^ i)) rfl rfl (lt_ok rfl) rfl rfl (Bin.shl (k := .i64) (k' := .i64) (a := (b.getD (a + (i : Int)).toNat 0 % 128)) (b := (7 * (i : Int))) p_17 (shl_var p_4 p_4 p_4))) ?_
   refine TL.c (Step.bin (r := .int .i64 (n + b.getD (a + (i : Int)).toNat 0 % 128 * 128 ^ i)) rfl rfl (lt_ok rfl) rfl rfl (Bin.or (k := .i64) (a := n) (b := (b.getD (a + (i : Int)).toNat 0 % 128 * 128 ^ i)) (or_add p_4 p_4 p_4 p_4 p_4))) ?_
   refine TL.rl [(7, (pI (n + b.getD (a + (i : Int)).toNat 0 % 128 * 128 ^ i)))] [] ?_
   refine T.sr [(52, (pB (decide ((b.getD (a + (i : Int)).toNat 0) < 128))))] [] ?_
   refine T.ci rfl (fun h7 => ?_) (fun h7 => ?_)
   ·refine T.seq (T.sg ?_)
    refine TL.rx 1 [(53, (pI (n + b.getD (a + (i : Int)).toNat 0 % 128 * 128 ^ i)))] [] ?_
    refine TL.c (Step.cz (ok_impl_isNum (n + b.getD (a + (i : Int)).toNat 0 % 128 * 128 ^ i))) ?_
    refine TL.rl [(55, (pB (!(decide (0 ≤ (n + b.getD (a + (i : Int)).toNat 0 % 128 * 128 ^ i) ∧ (n + b.getD (a + (i : Int)).toNat 0 % 128 * 128 ^ i) ≤ 1152921504606846975)))))] [] ?_
    refine T.cni rfl (fun h8 => ?_) (fun h8 => ?_)
    ·refine T.sr [(4, (pI 0)), (5, (pI 0)), (6, (pI 2))] [] ?_
     refine T.ret ?_
     exact p_124
    refine T.skip (T.sg ?_)
    refine TL.rx 3 [(56, (pI (n + b.getD (a + (i : Int)).toNat 0 % 128 * 128 ^ i))), (57, (pI a)), (58, (pI (i : Int)))] [] ?_
    refine TL.ad (a + (i : Int)) ?_
    refine TL.ad ((a + (i : Int)) + 1) ?_
    refine TL.rl [(4, (pI (n + b.getD (a + (i : Int)).toNat 0 % 128 * 128 ^ i))), (5, (pI ((a + (i : Int)) + 1))), (6, (pI 0))] [] ?_
    refine T.ret ?_
    exact p_124
   refine T.skip (T.region ?_)
   refine TL.rx 1 [(15, (pI (i : Int)))] [] ?_
   refine TL.ad ((i : Int) + 1) ?_
   refine TL.rl [(8, (pI ((i : Int) + 1)))] [] ?_
   refine ⟨(i + 1, n + b.getD (a + (i : Int)).toNat 0 % 128 * 128 ^ i), by (try dsimp only); (refine ⟨by omega, by omega, by rw [Int.pow_succ]; omega, ?_⟩; exact (gvGo_next (n := n) p_4 p_4 p_4 p_4).symm.trans hx4), by (dsimp only; omega), Env.le_mk ⟨rfl, rfl, ?_, ?_, trivial⟩ trivial trivial⟩ <;> exact p_22
  refine TL.known 38 hb5 rfl ?_
  have hb5' := hb5
  replace hb5' := of_decide_eq_false hb5'
  refine TL.rl [(42, (pB false))] [] ?_
  refine T.cf (T.skip (T.sg ?_))
  refine TL.rx 2 [(43, (pI n)), (44, (.one (.d (.int .u8 (b.getD (a + (i : Int)).toNat 0)))))] [] ?_
  refine TL.c (Step.bin (r := .int .u8 (b.getD (a + (i : Int)).toNat 0 % 128)) rfl rfl (lt_ok rfl) rfl rfl (Bin.and (k := .u8) (a := (b.getD (a + (i : Int)).toNat 0)) (b := 127) (and127 hu_.1 hu_.2))) ?_
  refine TL.c (Step.conv (c := (b.getD (a + (i : Int)).toNat 0 % 128)) rfl rfl (lt_ok rfl) p_6 p_6 rfl (wrap_ok p_17 p_17)) ?_
  refine TL.rx 1 [(47, (pI (i : Int)))] [] ?_
  refine TL.ml (7 * (i : Int)) ?_
  refine TL.c (Step.bin (r := .int .i64 (b.getD (a + (i : Int)).toNat 0 % 128 * 128 ^ i)) rfl rfl (lt_ok rfl) rfl rfl (Bin.shl (k := .i64) (k' := .i64) (a := (b.getD (a + (i : Int)).toNat 0 % 128)) (b := (7 * (i : Int))) p_17 (shl_var p_4 p_4 p_4))) ?_
  refine TL.c (Step.bin (r := .int .i64 (n + b.getD (a + (i : Int)).toNat 0 % 128 * 128 ^ i)) rfl rfl (lt_ok rfl) rfl rfl (Bin.or (k := .i64) (a := n) (b := (b.getD (a + (i : Int)).toNat 0 % 128 * 128 ^ i)) (or_add p_4 p_4 p_4 p_4 p_4))) ?_
  refine TL.rl [(7, (pI (n + b.getD (a + (i : Int)).toNat 0 % 128 * 128 ^ i)))] [] ?_
  refine T.sr [(52, (pB (decide ((b.getD (a + (i : Int)).toNat 0) < 128))))] [] ?_
  refine T.ci rfl (fun h9 => ?_) (fun h9 => ?_)
  ·refine T.seq (T.sg ?_)
   refine TL.rx 1 [(53, (pI (n + b.getD (a + (i : Int)).toNat 0 % 128 * 128 ^ i)))] [] ?_
   refine TL.c (Step.cz (ok_impl_isNum (n + b.getD (a + (i : Int)).toNat 0 % 128 * 128 ^ i))) ?_
   refine TL.rl [(55, (pB (!(decide (0 ≤ (n + b.getD (a + (i : Int)).toNat 0 % 128 * 128 ^ i) ∧ (n + b.getD (a + (i : Int)).toNat 0 % 128 * 128 ^ i) ≤ 1152921504606846975)))))] [] ?_
   refine T.cni rfl (fun h10 => ?_) (fun h10 => ?_)
   ·refine T.sr [(4, (pI 0)), (5, (pI 0)), (6, (pI 2))] [] ?_
    refine T.ret ?_
    exact p_124
   refine T.skip (T.sg ?_)
   refine TL.rx 3 [(56, (pI (n + b.getD (a + (i : Int)).toNat 0 % 128 * 128 ^ i))), (57, (pI a)), (58, (pI (i : Int)))] [] ?_
   refine TL.ad (a + (i : Int)) ?_
   refine TL.ad ((a + (i : Int)) + 1) ?_
   refine TL.rl [(4, (pI (n + b.getD (a + (i : Int)).toNat 0 % 128 * 128 ^ i))), (5, (pI ((a + (i : Int)) + 1))), (6, (pI 0))] [] ?_
   refine T.ret ?_
   exact p_124
  refine T.skip (T.region ?_)
  refine TL.rx 1 [(15, (pI (i : Int)))] [] ?_
  refine TL.ad ((i : Int) + 1) ?_
  refine TL.rl [(8, (pI ((i : Int) + 1)))] [] ?_
  refine ⟨(i + 1, n + b.getD (a + (i : Int)).toNat 0 % 128 * 128 ^ i), by (try dsimp only); (refine ⟨by omega, by omega, by rw [Int.pow_succ]; omega, ?_⟩; exact (gvGo_next (n := n) p_4 p_4 p_4 p_4).symm.trans hx4), by (dsimp only; omega), Env.le_mk ⟨rfl, rfl, ?_, ?_, trivial⟩ trivial trivial⟩ <;> exact p_22
 refine TL.known 31 hb3 rfl ?_
 have hb3' := hb3
 replace hb3' := of_decide_eq_false hb3'
 refine TL.rx 7 [(35, (pB false)), (38, (pB (decide ((i : Int) = 8))))] [] ?_
 rcases Bool.eq_false_or_eq_true (decide ((i : Int) = 8)) with hb11 | hb11
 ·refine TL.known 38 hb11 rfl ?_
  have hb11' := hb11
  replace hb11' := of_decide_eq_true hb11'
  refine TL.rl [(42, (pB (decide (128 ≤ (b.getD (a + (i : Int)).toNat 0)))))] [] ?_
  refine T.ci rfl (fun h12 => ?_) (fun h12 => ?_)
  ·refine T.sr [(4, (pI 0)), (5, (pI 0)), (6, (pI 2))] [] ?_
   refine T.ret ?_
   exact p_124
  refine T.skip (T.sg ?_)
  refine TL.rx 2 [(43, (pI n)), (44, (.one (.d (.int .u8 (b.getD (a + (i : Int)).toNat 0)))))] [] ?_
  refine TL.c (Step.bin (r := .int .u8 (b.getD (a + (i : Int)).toNat 0 % 128)) rfl rfl (lt_ok rfl) rfl rfl (Bin.and (k := .u8) (a := (b.getD (a + (i : Int)).toNat 0)) (b := 127) (and127 hu_.1 hu_.2))) ?_
  refine TL.c (Step.conv (c := (b.getD (a + (i : Int)).toNat 0 % 128)) rfl rfl (lt_ok rfl) p_6 p_6 rfl (wrap_ok p_17 p_17)) ?_
  refine TL.rx 1 [(47, (pI (i : Int)))] [] ?_
  refine TL.ml (7 * (i : Int)) ?_
  refine TL.c (Step.bin (r := .int .i64 (b.getD (a + (i : Int)).toNat 0 % 128 * 128 ^ i)) rfl rfl (lt_ok rfl) rfl rfl (Bin.shl (k := .i64) (k' := .i64) (a := (b.getD (a + (i : Int)).toNat 0 % 128)) (b := (7 * (i : Int))) p_17 (shl_var p_4 p_4 p_4))) ?_
  refine TL.c (Step.bin (r := .int .i64 (n + b.getD (a + (i : Int)).toNat 0 % 128 * 128 ^ i)) rfl rfl (lt_ok rfl) rfl rfl (Bin.or (k := .i64) (a := n) (b := (b.getD (a + (i : Int)).toNat 0 % 128 * 128 ^ i)) (or_add p_4 p_4 p_4 p_4 p_4))) ?_
  refine TL.rl [(7, (pI (n + b.getD (a + (i : Int)).toNat 0 % 128 * 128 ^ i)))] [] ?_
  refine T.sr [(52, (pB (decide ((b.getD (a + (i : Int)).toNat 0) < 128))))] [] ?_
  refine T.ci rfl (fun h13 => ?_) (fun h13 => ?_)
  ·refine T.seq (T.sg ?_)
   refine TL.rx 1 [(53, (pI (n + b.getD (a + (i : Int)).toNat 0 % 128 * 128 ^ i)))] [] ?_
   refine TL.c (Step.cz (ok_impl_isNum (n + b.getD (a + (i : Int)).toNat 0 % 128 * 128 ^ i))) ?_
   refine TL.rl [(55, (pB (!(decide (0 ≤ (n + b.getD (a + (i : Int)).toNat 0 % 128 * 128 ^ i) ∧ (n + b.getD (a + (i : Int)).toNat 0 % 128 * 128 ^ i) ≤ 1152921504606846975)))))] [] ?_
   refine T.cni rfl (fun h14 => ?_) (fun h14 => ?_)
   ·refine T.sr [(4, (pI 0)), (5, (pI 0)), (6, (pI 2))] [] ?_
    refine T.ret ?_
    exact p_124
   refine T.skip (T.sg ?_)
   refine TL.rx 3 [(56, (pI (n + b.getD (a + (i : Int)).toNat 0 % 128 * 128 ^ i))), (57, (pI a)), (58, (pI (i : Int)))] [] ?_
   refine TL.ad (a + (i : Int)) ?_
   refine TL.ad ((a + (i : Int)) + 1) ?_
   refine TL.rl [(4, (pI (n + b.getD (a + (i : Int)).toNat 0 % 128 * 128 ^ i))), (5, (pI ((a + (i : Int)) + 1))), (6, (pI 0))] [] ?_
   refine T.ret ?_
   exact p_124
  refine T.skip (T.region ?_)
  refine TL.rx 1 [(15, (pI (i : Int)))] [] ?_
  refine TL.ad ((i : Int) + 1) ?_
  refine TL.rl [(8, (pI ((i : Int) + 1)))] [] ?_
  refine ⟨(i + 1, n + b.getD (a + (i : Int)).toNat 0 % 128 * 128 ^ i), by (try dsimp only); (refine ⟨by omega, by omega, by rw [Int.pow_succ]; omega, ?_⟩; exact (gvGo_next (n := n) p_4 p_4 p_4 p_4).symm.trans hx4), by (dsimp only; omega), Env.le_mk ⟨rfl, rfl, ?_, ?_, trivial⟩ trivial trivial⟩ <;> exact p_22
 refine TL.known 38 hb11 rfl ?_
 have hb11' := hb11
 replace hb11' := of_decide_eq_false hb11'
 refine TL.rl [(42, (pB false))] [] ?_
 refine T.cf (T.skip (T.sg ?_))
 refine TL.rx 2 [(43, (pI n)), (44, (.one (.d (.int .u8 (b.getD (a + (i : Int)).toNat 0)))))] [] ?_
 refine TL.c (Step.bin (r := .int .u8 (b.getD (a + (i : Int)).toNat 0 % 128)) rfl rfl (lt_ok rfl) rfl rfl (Bin.and (k := .u8) (a := (b.getD (a + (i : Int)).toNat 0)) (b := 127) (and127 hu_.1 hu_.2))) ?_
 refine TL.c (Step.conv (c := (b.getD (a + (i : Int)).toNat 0 % 128)) rfl rfl (lt_ok rfl) p_6 p_6 rfl (wrap_ok p_17 p_17)) ?_
 refine TL.rx 1 [(47, (pI (i : Int)))] [] ?_
 refine TL.ml (7 * (i : Int)) ?_
 refine TL.c (Step.bin (r := .int .i64 (b.getD (a + (i : Int)).toNat 0 % 128 * 128 ^ i)) rfl rfl (lt_ok rfl) rfl rfl (Bin.shl (k := .i64) (k' := .i64) (a := (b.getD (a + (i : Int)).toNat 0 % 128)) (b := (7 * (i : Int))) p_17 (shl_var p_4 p_4 p_4))) ?_
 refine TL.c (Step.bin (r := .int .i64 (n + b.getD (a + (i : Int)).toNat 0 % 128 * 128 ^ i)) rfl rfl (lt_ok rfl) rfl rfl (Bin.or (k := .i64) (a := n) (b := (b.getD (a + (i : Int)).toNat 0 % 128 * 128 ^ i)) (or_add p_4 p_4 p_4 p_4 p_4))) ?_
 refine TL.rl [(7, (pI (n + b.getD (a + (i : Int)).toNat 0 % 128 * 128 ^ i)))] [] ?_
 refine T.sr [(52, (pB (decide ((b.getD (a + (i : Int)).toNat 0) < 128))))] [] ?_
 refine T.ci rfl (fun h15 => ?_) (fun h15 => ?_)
 ·refine T.seq (T.sg ?_)
  refine TL.rx 1 [(53, (pI (n + b.getD (a + (i : Int)).toNat 0 % 128 * 128 ^ i)))] [] ?_
  refine TL.c (Step.cz (ok_impl_isNum (n + b.getD (a + (i : Int)).toNat 0 % 128 * 128 ^ i))) ?_
  refine TL.rl [(55, (pB (!(decide (0 ≤ (n + b.getD (a + (i : Int)).toNat 0 % 128 * 128 ^ i) ∧ (n + b.getD (a + (i : Int)).toNat 0 % 128 * 128 ^ i) ≤ 1152921504606846975)))))] [] ?_
  refine T.cni rfl (fun h16 => ?_) (fun h16 => ?_)
  ·refine T.sr [(4, (pI 0)), (5, (pI 0)), (6, (pI 2))] [] ?_
   refine T.ret ?_
   exact p_124
  refine T.skip (T.sg ?_)
  refine TL.rx 3 [(56, (pI (n + b.getD (a + (i : Int)).toNat 0 % 128 * 128 ^ i))), (57, (pI a)), (58, (pI (i : Int)))] [] ?_
  refine TL.ad (a + (i : Int)) ?_
  refine TL.ad ((a + (i : Int)) + 1) ?_
  refine TL.rl [(4, (pI (n + b.getD (a + (i : Int)).toNat 0 % 128 * 128 ^ i))), (5, (pI ((a + (i : Int)) + 1))), (6, (pI 0))] [] ?_
  refine T.ret ?_
  exact p_124
 refine T.skip (T.region ?_)
 refine TL.rx 1 [(15, (pI (i : Int)))] [] ?_
 refine TL.ad ((i : Int) + 1) ?_
 refine TL.rl [(8, (pI ((i : Int) + 1)))] [] ?_
 refine ⟨(i + 1, n + b.getD (a + (i : Int)).toNat 0 % 128 * 128 ^ i), by (try dsimp only); (refine ⟨by omega, by omega, by rw [Int.pow_succ]; omega, ?_⟩; exact (gvGo_next (n := n) p_4 p_4 p_4 p_4).symm.trans hx4), by (dsimp only; omega), Env.le_mk ⟨rfl, rfl, ?_, ?_, trivial⟩ trivial trivial⟩ <;> exact p_22
theorem ok_impl_reader__num (b : List Int) (s : SRS) (h0_ : U8s b) (h1_ : b.length ≤ 1048576) : BX Tryz.prog 110 [.bx] 151 [.rd (.ints .u8 b), .rd (.int .i64 s.f0), .rd (.int .i64 s.f1)] [.rd (.ints .u8 b), .rd (.int .i64 (ab b s).1.f0), .rd (.int .i64 (ab b s).1.f1)] [(false, [.rd (.int .i64 (ab b s).2)])] := by
 refine BX.intro Tryz.func110 rfl 33 rfl (le_ok rfl) (le_ok rfl) fun w Z IX pin hp => ?_
 refine T.sr [(2, (pI 0))] [] ?_
 refine T.seq ?_
 refine T.sr [(10, (pB (decide (s.f1 ≠ 0))))] [] ?_
 refine T.ci rfl (fun h1 => ?_) (fun h1 => ?_)
 ·refine T.sr [(2, (pI 0))] [] ?_
  refine T.ret ?_
  exact p_147
 refine T.skip (T.seq ?_)
 have nn2 := @getVar_bd b p_3 s.f0
 refine T.draw [⟨12, (.one (.ptr 800 0)), []⟩, ⟨13, (.one (.ptr 800 0)), []⟩, ⟨14, (.one (.ptr 800 0)), []⟩, ⟨15, (pS b), []⟩, ⟨16, (.one (.ptr 800 0)), []⟩, ⟨17, (.one (.ptr 800 0)), []⟩, ⟨18, (.one (.ptr 800 1)), []⟩, ⟨19, (pI s.f0), []⟩, ⟨20, (.tup [(false, [cI (getVar b s.f0).1]), (false, [cI (getVar b s.f0).2.1]), (false, [cI (getVar b s.f0).2.2])]), []⟩, ⟨11, (.tup [(false, [cI (getVar b s.f0).1]), (false, [cI (getVar b s.f0).2.1]), (false, [cI (getVar b s.f0).2.2])]), []⟩, ⟨21, (pI (getVar b s.f0).1), []⟩, ⟨22, (pI (getVar b s.f0).2.1), []⟩, ⟨23, (pI (getVar b s.f0).2.2), []⟩, ⟨3, (pI (getVar b s.f0).1), []⟩, ⟨4, (pI (getVar b s.f0).2.1), []⟩, ⟨5, (pI (getVar b s.f0).2.2), []⟩] p_6 p_6 ?_ ?_
 ·refine .cons (fun E A => A.mv 0 12) ?_
  refine .cons (fun E A => OpStep.plain rfl (Step.nilCheck (t := 13) rfl rfl p_21 (A.g 12 rfl))) ?_
  refine .cons (fun E A => OpStep.plain rfl (Step.fa (off := 0) (n := 1) (one := true) 0 14 (A.g 13 rfl))) ?_
  refine .cons (fun E A => OpStep.plain rfl (Step.load_box (c := cS b) (t := 15) rfl rfl p_21 p_6 (A.g 14 rfl) (by exact A.box rfl) rfl)) ?_
  refine .cons (fun E A => A.mv 0 16) ?_
  refine .cons (fun E A => OpStep.plain rfl (Step.nilCheck (t := 17) rfl rfl p_21 (A.g 16 rfl))) ?_
  refine .cons (fun E A => OpStep.plain rfl (Step.fa (off := 1) (n := 1) (one := true) 0 18 (A.g 17 rfl))) ?_
  refine .cons (fun E A => OpStep.plain rfl (Step.load_box (c := cI s.f0) (t := 19) rfl rfl p_21 p_6 (A.g 18 rfl) (by exact A.box rfl) rfl)) ?_
  refine .cons (fun E A => OpStep.plain rfl (Step.call (f := 133) (xs := [.tmp 15, .tmp 19]) (ps := [(pS b), (pI s.f0)]) false (g := .func 133) (t := 20) rfl rfl p_21 rfl p_6 (evs_cons (A.g 15 rfl) (evs_cons (A.g 19 rfl) (rfl))) (.cons (.one (.d _)) (.cons (.one (.d _)) .nil)) (ok_impl_GetVar b s.f0 p_3 p_0) (.inr rfl) (At.freshRows A rfl) (fun x hx => by have := hp x hx; omega) rfl)) ?_
  refine .cons (fun E A => A.mv 20 11) ?_
  refine .cons (fun E A => OpStep.plain rfl (Step.extract (p := (pI (getVar b s.f0).1)) (t := 21) rfl rfl p_21 (A.g 11 rfl) rfl)) ?_
  refine .cons (fun E A => OpStep.plain rfl (Step.extract (p := (pI (getVar b s.f0).2.1)) (t := 22) rfl rfl p_21 (A.g 11 rfl) rfl)) ?_
  refine .cons (fun E A => OpStep.plain rfl (Step.extract (p := (pI (getVar b s.f0).2.2)) (t := 23) rfl rfl p_21 (A.g 11 rfl) rfl)) ?_
  refine .cons (fun E A => A.as 21 3) ?_
  refine .cons (fun E A => A.as 22 4) ?_
  refine .cons (fun E A => A.as 23 5) ?_
  exact .nil _ _
 refine TL.nil ?_
 refine T.sr [] [(800, (151, [cS b, cI (getVar b s.f0).2.1, cI (getVar b s.f0).2.2]))] ?_
 refine T.sr [(2, (pI (getVar b s.f0).1))] [] ?_
 refine T.ret ?_
 exact p_147
theorem ok_impl_copyBytes (a : List Int) (h0_ : a.length ≤ 17592186044416) : RO Tryz.prog 127 [.one (.ints .u8 a)] [(false, [.own 5 (.ints .u8 a)])] := by
 refine RO.intro Tryz.func127 rfl 6 rfl (le_ok rfl) fun w Z => ?_
 refine T.bnd 0 0 rfl rfl fun hb_0_0 => ?_
 simp only [D.size, List.length_map] at hb_0_0
 refine T.sr [(2, (.one (.nil)))] [] ?_
 refine T.sg ?_
 refine TL.c (Step.lt 5 1 1 [] [] (.ints .u8 [])) ?_
 refine TL.rx 1 [(4, (pS a))] [] ?_
 refine TL.c (Step.ap 5 1 1 (.ints .u8 a) (.ints .u8 ([] ++ a)) (.froz rfl p_101)) ?_
 refine TL.rl [(2, (.one (.row 3 [])))] [] ?_
 refine T.ret ?_
 exact p_135
theorem ok_impl_GetRaw (b : List Int) (a : Int) (n : Int) (h0_ : b.length ≤ 1099511627776) : RO Tryz.prog 135 [.one (.ints .u8 b), .one (.int .i64 a), .one (.int .i64 n)] [(false, [.own 5 (.ints .u8 (av b a n).1)]), (false, [.rd (.int .i64 (av b a n).2.1)]), (false, [.rd (.int .i64 (av b a n).2.2)])] := by
 refine RO.intro Tryz.func135 rfl 33 rfl (le_ok rfl) fun w Z => ?_
 refine T.bnd 0 0 rfl rfl fun hb_0_0 => ?_
 simp only [D.size, List.length_map] at hb_0_0
 refine T.sr [(6, (.one (.nil))), (7, (pI 0)), (8, (pI 0))] [] ?_
 refine T.seq (T.sg ?_)
 refine TL.rx 2 [(9, (pI a)), (10, (pS b))] [] ?_
 refine TL.c (Step.ln 5 1 (.ints .u8 b)) ?_
 refine TL.c (Step.cz (ok_impl_within a 0 (b.length : Int))) ?_
 refine TL.rx 2 [(14, (pB (!(decide (0 ≤ a ∧ a ≤ (b.length : Int))))))] [] ?_
 rcases Bool.eq_false_or_eq_true (!(decide (0 ≤ a ∧ a ≤ (b.length : Int)))) with hb1 | hb1
 ·refine TL.known 14 hb1 rfl ?_
  have hb1' := hb1
  replace hb1' : (decide (0 ≤ a ∧ a ≤ (b.length : Int))) = false := by simpa only [Bool.not_eq_true', Bool.not_eq_false'] using hb1'
  replace hb1' := of_decide_eq_false hb1'
  refine TL.rl [(22, (pB true))] [] ?_
  refine T.ct ?_
  refine T.sr [(6, (.one (.nil))), (7, (pI 0)), (8, (pI 1))] [] ?_
  refine T.ret ?_
  exact p_138
 refine TL.known 14 hb1 rfl ?_
 have hb1' := hb1
 replace hb1' : (decide (0 ≤ a ∧ a ≤ (b.length : Int))) = true := by simpa only [Bool.not_eq_true', Bool.not_eq_false'] using hb1'
 replace hb1' := of_decide_eq_true hb1'
 refine TL.rx 2 [(15, (pI n)), (16, (pS b))] [] ?_
 refine TL.gy 14 (Step.ln 5 1 (.ints .u8 b)) ?_
 refine TL.rx 1 [(18, (pI a))] [] ?_
 refine TL.gy 14 (Step.bin (r := .int .i64 ((b.length : Int) - a)) rfl rfl (lt_ok rfl) rfl rfl (Bin.sub (a := (b.length : Int)) (b := a) p_58)) ?_
 refine TL.gy 14 (Step.cz (ok_impl_within n 0 ((b.length : Int) - a))) ?_
 refine TL.rl [(22, (pB (!(decide (0 ≤ n ∧ n ≤ ((b.length : Int) - a))))))] [] ?_
 refine T.cni rfl (fun h2 => ?_) (fun h2 => ?_)
 ·refine T.sr [(6, (.one (.nil))), (7, (pI 0)), (8, (pI 1))] [] ?_
  refine T.ret ?_
  exact p_138
 refine T.skip (T.sg ?_)
 refine TL.rx 4 [(23, (pS b)), (24, (pI a)), (25, (pI a)), (26, (pI n))] [] ?_
 refine TL.c (Step.bin (r := .int .i64 (a + n)) rfl rfl (lt_ok rfl) rfl rfl (Bin.add (a := a) (b := n) p_58)) ?_
 refine TL.c (Step.slice (e := 5) (z := 1) (l := (a).toNat) (h := (a + n).toNat) rfl rfl (lt_ok rfl) p_6 rfl rfl rfl ((.some (i := a) rfl p_95)) ((.some (i := (a + n)) rfl p_95)) p_95 (by simp only [D.size]; first | omega | (simp only [List.length_take, List.length_drop]; omega) | (simp; omega)) rfl) ?_
 refine TL.c (Step.cz (ok_impl_copyBytes ((b.drop (a).toNat).take ((a + n).toNat - (a).toNat)) p_110)) ?_
 refine TL.rx 2 [(30, (pI a)), (31, (pI n))] [] ?_
 refine TL.c (Step.bin (r := .int .i64 (a + n)) rfl rfl (lt_ok rfl) rfl rfl (Bin.add (a := a) (b := n) p_58)) ?_
 refine TL.rl [(6, (.one (.row 1029 []))), (7, (pI (a + n))), (8, (pI 0))] [] ?_
 refine T.ret ?_
 exact p_179
theorem ok_impl_reader__raw (b : List Int) (s : SRS) (n : Int) (h0_ : U8s b) (h1_ : b.length ≤ 1048576) : BX Tryz.prog 134 [.bx, .rd (.one (.int .i64 n))] 151 [.rd (.ints .u8 b), .rd (.int .i64 s.f0), .rd (.int .i64 s.f1)] [.rd (.ints .u8 b), .rd (.int .i64 (ae b s n).1.f0), .rd (.int .i64 (ae b s n).1.f1)] [(false, [.own 5 (.ints .u8 (ae b s n).2)])] := by
 refine BX.intro Tryz.func134 rfl 36 rfl (le_ok rfl) (le_ok rfl) fun w Z IX pin hp => ?_
 refine T.sr [(4, (.one (.nil)))] [] ?_
 refine T.seq ?_
 refine T.sr [(12, (pB (decide (s.f1 ≠ 0))))] [] ?_
 refine T.ci rfl (fun h1 => ?_) (fun h1 => ?_)
 ·refine T.sr [(4, (.one (.nil)))] [] ?_
  refine T.ret ?_
  exact p_181
 refine T.skip (T.seq ?_)
 have nn2 := getRaw_bd b s.f0 n
 refine T.draw [⟨14, (.one (.ptr 800 0)), []⟩, ⟨15, (.one (.ptr 800 0)), []⟩, ⟨16, (.one (.ptr 800 0)), []⟩, ⟨17, (pS b), []⟩, ⟨18, (.one (.ptr 800 0)), []⟩, ⟨19, (.one (.ptr 800 0)), []⟩, ⟨20, (.one (.ptr 800 1)), []⟩, ⟨21, (pI s.f0), []⟩, ⟨22, (pI n), []⟩, ⟨23, (.tup [(false, [.row 1023 []]), (false, [cI (av b s.f0 n).2.1]), (false, [cI (av b s.f0 n).2.2])]), [(1023, (5, (.ints .u8 (av b s.f0 n).1)))]⟩, ⟨13, (.tup [(false, [.row 1023 []]), (false, [cI (av b s.f0 n).2.1]), (false, [cI (av b s.f0 n).2.2])]), []⟩, ⟨24, (.one (.row 1023 [])), []⟩, ⟨25, (pI (av b s.f0 n).2.1), []⟩, ⟨26, (pI (av b s.f0 n).2.2), []⟩, ⟨5, (.one (.row 1023 [])), []⟩, ⟨6, (pI (av b s.f0 n).2.1), []⟩, ⟨7, (pI (av b s.f0 n).2.2), []⟩] p_6 p_6 ?_ ?_
 ·refine .cons (fun E A => A.mv 0 14) ?_
  refine .cons (fun E A => OpStep.plain rfl (Step.nilCheck (t := 15) rfl rfl p_21 (A.g 14 rfl))) ?_
  refine .cons (fun E A => OpStep.plain rfl (Step.fa (off := 0) (n := 1) (one := true) 0 16 (A.g 15 rfl))) ?_
  refine .cons (fun E A => OpStep.plain rfl (Step.load_box (c := cS b) (t := 17) rfl rfl p_21 p_6 (A.g 16 rfl) (by exact A.box rfl) rfl)) ?_
  refine .cons (fun E A => A.mv 0 18) ?_
  refine .cons (fun E A => OpStep.plain rfl (Step.nilCheck (t := 19) rfl rfl p_21 (A.g 18 rfl))) ?_
  refine .cons (fun E A => OpStep.plain rfl (Step.fa (off := 1) (n := 1) (one := true) 0 20 (A.g 19 rfl))) ?_
  refine .cons (fun E A => OpStep.plain rfl (Step.load_box (c := cI s.f0) (t := 21) rfl rfl p_21 p_6 (A.g 20 rfl) (by exact A.box rfl) rfl)) ?_
  refine .cons (fun E A => A.mv 1 22) ?_
  refine .cons (fun E A => OpStep.plain rfl (Step.call (f := 135) (xs := [.tmp 17, .tmp 21, .tmp 22]) (ps := [(pS b), (pI s.f0), (pI n)]) false (g := .func 135) (t := 23) rfl rfl p_21 rfl p_6 (evs_cons (A.g 17 rfl) (evs_cons (A.g 21 rfl) (evs_cons (A.g 22 rfl) (rfl)))) (.cons (.one (.d _)) (.cons (.one (.d _)) (.cons (.one (.d _)) .nil))) (ok_impl_GetRaw b s.f0 n p_0) (.inr rfl) (At.freshRows A rfl) (fun x hx => by have := hp x hx; omega) rfl)) ?_
  refine .cons (fun E A => A.mv 23 13) ?_
  refine .cons (fun E A => OpStep.plain rfl (Step.extract (p := (.one (.row 1023 []))) (t := 24) rfl rfl p_21 (A.g 13 rfl) rfl)) ?_
  refine .cons (fun E A => OpStep.plain rfl (Step.extract (p := (pI (av b s.f0 n).2.1)) (t := 25) rfl rfl p_21 (A.g 13 rfl) rfl)) ?_
  refine .cons (fun E A => OpStep.plain rfl (Step.extract (p := (pI (av b s.f0 n).2.2)) (t := 26) rfl rfl p_21 (A.g 13 rfl) rfl)) ?_
  refine .cons (fun E A => A.as 24 5) ?_
  refine .cons (fun E A => A.as 25 6) ?_
  refine .cons (fun E A => A.as 26 7) ?_
  exact .nil _ _
 refine TL.nil ?_
 refine T.sr [] [(800, (151, [cS b, cI (av b s.f0 n).2.1, cI (av b s.f0 n).2.2]))] ?_
 refine T.sr [(4, (.one (.row 1023 [])))] [] ?_
 refine T.ret ?_
 exact p_184
theorem ok_impl_reader__hash (b : List Int) (s : SRS) (h0_ : U8s b) (h1_ : b.length ≤ 1048576) : BX Tryz.prog 111 [.bx] 151 [.rd (.ints .u8 b), .rd (.int .i64 s.f0), .rd (.int .i64 s.f1)] [.rd (.ints .u8 b), .rd (.int .i64 (ae b s 32).1.f0), .rd (.int .i64 (ae b s 32).1.f1)] [(false, [.own 5 (.ints .u8 (ae b s 32).2)])] := by
 refine BX.intro Tryz.func111 rfl 5 rfl (le_ok rfl) (le_ok rfl) fun w Z IX pin hp => ?_
 refine T.sr [(2, (.one (.nil)))] [] ?_
 refine T.sg ?_
 refine TL.rx 1 [(3, (.one (.ptr 800 0)))] [] ?_
 have nn1 := rdRaw_len b s 32
 refine TL.c (Step.x2 800 (ok_impl_reader__raw b s 32 p_3 p_0)) ?_
 refine TL.rl [(2, (.one (.row 4004 [])))] [] ?_
 refine T.ret ?_
 refine ⟨_, _, rfl, rfl, (.cons rfl .nil), rfl, _, (.r rfl (.r rfl (.r rfl (.o ?_ .nil))))⟩ <;> exact p_122
theorem ok_impl_reader__must (b : List Int) (s : SRS) (k : Bool) (c : Int) (h0_ : U8s b) (h1_ : b.length ≤ 1048576) : BX Tryz.prog 115 [.bx, .rd (.one (.bool k)), .rd (.one (.int .i64 c))] 151 [.rd (.ints .u8 b), .rd (.int .i64 s.f0), .rd (.int .i64 s.f1)] [.rd (.ints .u8 b), .rd (.int .i64 (ac s k c).f0), .rd (.int .i64 (ac s k c).f1)] [] := by
 refine BX.intro Tryz.func115 rfl 19 rfl (le_ok rfl) (le_ok rfl) fun w Z IX pin hp => ?_
 refine T.sg ?_
 refine TL.rx 6 [(11, (pB (decide (s.f1 = 0))))] [] ?_
 rcases Bool.eq_false_or_eq_true (decide (s.f1 = 0)) with hb1 | hb1
 ·refine TL.known 11 hb1 rfl ?_
  have hb1' := hb1
  replace hb1' := of_decide_eq_true hb1'
  refine TL.rl [(14, (pB (!k)))] [] ?_
  refine T.cn rfl (fun h2 => ?_) (fun h2 => ?_)
  ·refine T.rr [] [(800, (151, [cS b, cI s.f0, cI c]))] ?_
   exact p_142
  refine T.skip ?_
  exact p_142
 refine TL.known 11 hb1 rfl ?_
 have hb1' := hb1
 replace hb1' := of_decide_eq_false hb1'
 refine TL.rl [(14, (pB false))] [] ?_
 refine T.cf (T.skip ?_)
 exact p_142
theorem ok_impl_reader__below (b : List Int) (s : SRS) (n : Int) (c : Int) (h0_ : U8s b) (h1_ : b.length ≤ 1048576) : BX Tryz.prog 112 [.bx, .rd (.one (.int .i64 n)), .rd (.one (.int .i64 c))] 151 [.rd (.ints .u8 b), .rd (.int .i64 s.f0), .rd (.int .i64 s.f1)] [.rd (.ints .u8 b), .rd (.int .i64 (ai b s n c).1.f0), .rd (.int .i64 (ai b s n c).1.f1)] [(false, [.rd (.int .i64 (ai b s n c).2)])] := by
 refine BX.intro Tryz.func112 rfl 17 rfl (le_ok rfl) (le_ok rfl) fun w Z IX pin hp => ?_
 refine T.sr [(6, (pI 0))] [] ?_
 refine T.sg ?_
 refine TL.rx 1 [(8, (.one (.ptr 800 0)))] [] ?_
 have nn1 := @ay b p_3 s
 refine TL.c (Step.x2 800 (ok_impl_reader__num b s p_3 p_0)) ?_
 refine TL.rl [(7, (pI (ab b s).2))] [] ?_
 refine T.sg ?_
 refine TL.rx 5 [(10, (.one (.ptr 800 0))), (13, (pB (decide ((ab b s).2 < n)))), (14, (pI c))] [] ?_
 refine TL.c (Step.x2 800 (ok_impl_reader__must b (ab b s).1 (decide ((ab b s).2 < n)) c p_3 p_0)) ?_
 refine TL.nil ?_
 refine T.sr [(6, (pI (ab b s).2))] [] ?_
 refine T.ret ?_
 refine ⟨_, _, rfl, rfl, (.cons rfl .nil), rfl, _, (.r rfl (.r ?_ (.r ?_ (.r ?_ .nil))))⟩ <;> exact p_122
theorem ok_impl_readVote (b : List Int) (s : SRS) (l : SLimits) (h0_ : U8s b) (h1_ : b.length ≤ 1048576) : BX Tryz.prog 73 [.rd (.agg [(.int .i64 l.f0), (.int .i64 l.f1), (.int .i64 l.f2), (.int .i64 l.f3), (.int .i64 l.f4)]), .bx] 151 [.rd (.ints .u8 b), .rd (.int .i64 s.f0), .rd (.int .i64 s.f1)] [.rd (.ints .u8 b), .rd (.int .i64 (rdVote l b s).1.f0), .rd (.int .i64 (rdVote l b s).1.f1)] [(true, [.rd (.int .i64 (rdVote l b s).2.f0), .rd (.int .i64 (rdVote l b s).2.f1), .own 5 (.ints .u8 (rdVote l b s).2.f2), .rd (.int .i64 (rdVote l b s).2.f3), .own 5 (.ints .u8 (rdVote l b s).2.f4)])] := by
 refine BX.intro Tryz.func73 rfl 18 rfl (le_ok rfl) (le_ok rfl) fun w Z IX pin hp => ?_
 refine T.sr [(2, (.one (.ptr 2 0))), (4, (.one (.ptr 4 0)))] [(2, (46, (c_3 l))), (4, (26, c_58))] ?_
 refine T.seq ?_
 have nn1 := @ay b p_3 s
 have nn2 := @ay b p_3 (ab b s).1
 have nn3 := rdRaw_len b (ab b (ab b s).1).1 32
 have nn4 := @ay b p_3 (ae b (ab b (ab b s).1).1 32).1
 have nn5 := rdRaw_len b (ai b (ae b (ab b (ab b s).1).1 32).1 l.f0 5).1 32
 refine T.drawX [{ dst := some 5, pv := (.one (.ptr 800 0)) }, { dst := some 6, pv := (pI (ab b s).2), box := some (800, (151, [cS b, cI (ab b s).1.f0, cI (ab b s).1.f1])) }, { dst := some 7, pv := (.one (.ptr 800 0)) }, { dst := some 8, pv := (pI (ab b (ab b s).1).2), box := some (800, (151, [cS b, cI (ab b (ab b s).1).1.f0, cI (ab b (ab b s).1).1.f1])) }, { dst := some 9, pv := (.one (.ptr 800 0)) }, { dst := some 10, pv := (.one (.row 4010 [])), rows := [(4010, (5, (.ints .u8 (ae b (ab b (ab b s).1).1 32).2)))], box := some (800, (151, (c_65 b s))) }, { dst := some 11, pv := (.one (.ptr 800 0)) }, { dst := some 12, pv := (.one (.ptr 2 0)) }, { dst := some 13, pv := (pI l.f0) }, { dst := some 14, pv := (pI (ai b (ae b (ab b (ab b s).1).1 32).1 l.f0 5).2), box := some (800, (151, [cS b, cI (ai b (ae b (ab b (ab b s).1).1 32).1 l.f0 5).1.f0, cI (ai b (ae b (ab b (ab b s).1).1 32).1 l.f0 5).1.f1])) }, { dst := some 15, pv := (.one (.ptr 800 0)) }, { dst := some 16, pv := (.one (.row 4016 [])), rows := [(4016, (5, (.ints .u8 (ae b (ai b (ae b (ab b (ab b s).1).1 32).1 l.f0 5).1 32).2)))], box := some (800, (151, (c_61 b l s))) }, { dst := some 17, pv := (.agg (c_57 b l s)) }, { box := some (4, (26, (c_57 b l s))) }] p_6 p_6 ?_ ?_
 ·refine .sk 1 ?_
  refine .cons (fun E A => OpStep.plain rfl (Step.callXX2 (b := 800) (xs := [.tmp 5]) (ps := [(.one (.ptr 800 0))]) (bps := [cS b, cI s.f0, cI s.f1]) (ss := []) (g := .func 110) (t := 6) (ok_impl_reader__num b s p_3 p_0) rfl rfl p_21 rfl p_6 (evs_cons (A.g 5) (rfl)) (.cons (.bx) .nil) (A.b 800 (x := (151, _))) (.rd (.rd (.rd .nil))) rfl (handX_fresh (fun x_ hx_ => A.fresh x_ (by exact hx_))) (fun x hx => by have := hp x hx; omega) rfl p_109)) ?_
  refine .sk 1 ?_
  refine .cons (fun E A => OpStep.plain rfl (Step.callXX2 (b := 800) (xs := [.tmp 7]) (ps := [(.one (.ptr 800 0))]) (bps := [cS b, cI (ab b s).1.f0, cI (ab b s).1.f1]) (ss := []) (g := .func 110) (t := 8) (ok_impl_reader__num b (ab b s).1 p_3 p_0) rfl rfl p_21 rfl p_6 (evs_cons (A.g 7) (rfl)) (.cons (.bx) .nil) (A.b 800 (x := (151, _))) (.rd (.rd (.rd .nil))) rfl (handX_fresh (fun x_ hx_ => A.fresh x_ (by exact hx_))) (fun x hx => by have := hp x hx; omega) rfl p_109)) ?_
  refine .sk 1 ?_
  refine .cons (fun E A => OpStep.plain rfl (Step.callXX2 (b := 800) (xs := [.tmp 9]) (ps := [(.one (.ptr 800 0))]) (bps := [cS b, cI (ab b (ab b s).1).1.f0, cI (ab b (ab b s).1).1.f1]) (ss := []) (g := .func 111) (t := 10) (ok_impl_reader__hash b (ab b (ab b s).1).1 p_3 p_0) rfl rfl p_21 rfl p_6 (evs_cons (A.g 9) (rfl)) (.cons (.bx) .nil) (A.b 800 (x := (151, _))) (.rd (.rd (.rd .nil))) rfl (handX_fresh (fun x_ hx_ => A.fresh x_ (by exact hx_))) (fun x hx => by have := hp x hx; omega) rfl p_109)) ?_
  refine .sk 3 ?_
  refine .cons (fun E A => OpStep.plain rfl (Step.callXX2 (b := 800) (xs := [.tmp 11, .tmp 13, .const (.int .i64 5)]) (ps := [(.one (.ptr 800 0)), (pI l.f0), (pI 5)]) (bps := (c_65 b s)) (ss := []) (g := .func 112) (t := 14) (ok_impl_reader__below b (ae b (ab b (ab b s).1).1 32).1 l.f0 5 p_3 p_0) rfl rfl p_21 rfl p_6 (evs_cons (A.g 11) (evs_cons (A.g 13) (evs_cons rfl (rfl)))) (.cons (.bx) (.cons (.rd (.one (.d _))) (.cons (.rd (.one (.d _))) .nil))) (A.b 800 (x := (151, _))) (.rd (.rd (.rd .nil))) rfl (handX_fresh (fun x_ hx_ => A.fresh x_ (by exact hx_))) (fun x hx => by have := hp x hx; omega) rfl p_109)) ?_
  refine .sk 1 ?_
  refine .cons (fun E A => OpStep.plain rfl (Step.callXX2 (b := 800) (xs := [.tmp 15]) (ps := [(.one (.ptr 800 0))]) (bps := [cS b, cI (ai b (ae b (ab b (ab b s).1).1 32).1 l.f0 5).1.f0, cI (ai b (ae b (ab b (ab b s).1).1 32).1 l.f0 5).1.f1]) (ss := []) (g := .func 111) (t := 16) (ok_impl_reader__hash b (ai b (ae b (ab b (ab b s).1).1 32).1 l.f0 5).1 p_3 p_0) rfl rfl p_21 rfl p_6 (evs_cons (A.g 15) (rfl)) (.cons (.bx) .nil) (A.b 800 (x := (151, _))) (.rd (.rd (.rd .nil))) rfl (handX_fresh (fun x_ hx_ => A.fresh x_ (by exact hx_))) (fun x hx => by have := hp x hx; omega) rfl p_109)) ?_
  refine .sk 2 ?_
  exact .nil _ _
 refine TL.wk [(4, (.one (.ptr 4 0)))] [(4010, (5, (.ints .u8 (ae b (ab b (ab b s).1).1 32).2))), (4016, (5, (.ints .u8 (ae b (ai b (ae b (ab b (ab b s).1).1 32).1 l.f0 5).1 32).2)))] [(800, (151, (c_61 b l s))), (2, (46, (c_3 l))), (4, (26, (c_57 b l s)))] ?_
 refine TL.nil (T.ret ?_)
 refine ⟨_, _, rfl, rfl, (.cons rfl .nil), rfl, _, (.r rfl (.r ?_ (.r ?_ (.r ?_ (.r ?_ (.o ?_ (.r ?_ (.o ?_ .nil))))))))⟩ <;> exact p_122
theorem ok_impl_Vote_ (l : SLimits) (b : List Int) (a : Int) (h0_ : U8s b) (h1_ : b.length ≤ 1048576) : RO Tryz.prog 72 [.agg l.cells, .one (.ints .u8 b), .one (.int .i64 a), .one (.fn 73)] [(true, [.rd (.int .i64 (aq l b a).1.f0), .rd (.int .i64 (aq l b a).1.f1), .own 5 (.ints .u8 (aq l b a).1.f2), .rd (.int .i64 (aq l b a).1.f3), .own 5 (.ints .u8 (aq l b a).1.f4)]), (false, [.rd (.int .i64 (aq l b a).2.1)]), (false, [.rd (.int .i64 (aq l b a).2.2)])] := by
 refine RO.intro Tryz.func72 rfl 41 rfl (le_ok rfl) fun w Z => ?_
 refine T.bnd 1 0 rfl rfl fun hb_1_0 => ?_
 simp only [D.size, List.length_map] at hb_1_0
 refine T.sr [(4, (.one (.ptr 4 0))), (8, (.one (.ptr 8 0))), (9, (pI 0)), (10, (pI 0))] [(4, (46, (c_3 l))), (8, (26, c_58))] ?_
 refine T.sr [(11, (.one (.ptr 11 0)))] [(11, (26, c_58))] ?_
 refine T.seq (T.sg ?_)
 refine TL.rx 1 [(14, (.agg (c_3 l)))] [] ?_
 refine TL.c (Step.cz (ok_impl_LimitsOk l)) ?_
 refine TL.rl [(16, (pB (!(limOk l))))] [] ?_
 refine T.cn rfl (fun h1 => ?_) (fun h1 => ?_)
 ·refine T.sr [(9, (pI 0)), (10, (pI 5))] [(8, (26, c_58))] ?_
  refine T.ret ?_
  exact p_146
 refine T.skip ?_
 refine T.sr [(12, (.one (.ptr 21 0)))] [(21, (151, [cS b, cI a, cI 0]))] ?_
 refine T.sg ?_
 refine TL.rx 3 [(22, (.one (.d (.fn 73)))), (23, (.agg (c_3 l))), (24, (.one (.ptr 21 0)))] [] ?_
 have nn2 := @rdVote_sm l b (⟨a, 0⟩ : SRS) p_60
 refine TL.c (Step.x2 21 (ok_impl_readVote b (⟨a, 0⟩ : SRS) l p_3 p_0)) ?_
 refine TL.rl [(13, (.one (.ptr 13 0)))] [(13, (26, (c_34 a b l)))] ?_
 refine T.seq ?_
 refine T.sr [(30, (pB (decide ((rdVote l b (⟨a, 0⟩ : SRS)).1.f1 ≠ 0))))] [] ?_
 refine T.ci rfl (fun h3 => ?_) (fun h3 => ?_)
 ·refine T.seq ?_
  refine T.drawX [{ dst := some 31, pv := (.agg c_58) }, { dst := some 32, pv := (.one (.ptr 21 0)) }, { dst := some 33, pv := (.one (.ptr 21 0)) }, { dst := some 34, pv := (.one (.ptr 21 2)) }, { dst := some 35, pv := (pI (rdVote l b (⟨a, 0⟩ : SRS)).1.f1) }, { box := some (8, (26, c_58)) }, { dst := some 9, pv := (pI 0) }, { dst := some 10, pv := (pI (rdVote l b (⟨a, 0⟩ : SRS)).1.f1) }] p_6 p_6 ?_ ?_
  ·refine .sk 8 ?_
   exact .nil _ _
  refine TL.wk [(8, (.one (.ptr 8 0))), (9, (pI 0)), (10, (pI (rdVote l b (⟨a, 0⟩ : SRS)).1.f1)), (12, (.one (.ptr 21 0))), (13, (.one (.ptr 13 0)))] [(6025, (5, (.ints .u8 (rdVote l b (⟨a, 0⟩ : SRS)).2.f2))), (8025, (5, (.ints .u8 (rdVote l b (⟨a, 0⟩ : SRS)).2.f4)))] [(4, (46, (c_3 l))), (8, (26, c_58)), (11, (26, c_58)), (21, (151, [cS b, cI (rdVote l b (⟨a, 0⟩ : SRS)).1.f0, cI (rdVote l b (⟨a, 0⟩ : SRS)).1.f1])), (13, (26, (c_34 a b l)))] ?_
  refine TL.nil (T.ret ?_)
  exact p_146
 refine T.skip (T.seq ?_)
 refine T.drawX [{ dst := some 36, pv := (.agg (c_34 a b l)) }, { dst := some 37, pv := (.one (.ptr 21 0)) }, { dst := some 38, pv := (.one (.ptr 21 0)) }, { dst := some 39, pv := (.one (.ptr 21 1)) }, { dst := some 40, pv := (pI (rdVote l b (⟨a, 0⟩ : SRS)).1.f0) }, { box := some (8, (26, (c_34 a b l))) }, { dst := some 9, pv := (pI (rdVote l b (⟨a, 0⟩ : SRS)).1.f0) }, { dst := some 10, pv := (pI 0) }] p_6 p_6 ?_ ?_
 ·refine .sk 8 ?_
  exact .nil _ _
 refine TL.wk [(8, (.one (.ptr 8 0))), (9, (pI (rdVote l b (⟨a, 0⟩ : SRS)).1.f0)), (10, (pI 0))] [(6025, (5, (.ints .u8 (rdVote l b (⟨a, 0⟩ : SRS)).2.f2))), (8025, (5, (.ints .u8 (rdVote l b (⟨a, 0⟩ : SRS)).2.f4)))] [(4, (46, (c_3 l))), (8, (26, (c_34 a b l))), (11, (26, c_58)), (21, (151, [cS b, cI (rdVote l b (⟨a, 0⟩ : SRS)).1.f0, cI (rdVote l b (⟨a, 0⟩ : SRS)).1.f1])), (13, (26, (c_34 a b l)))] ?_
 refine TL.nil (T.ret ?_)
 exact p_162
theorem ok_impl_GetVote (l : SLimits) (b : List Int) (a : Int) (h0_ : U8s b) (h1_ : b.length ≤ 1048576) : RO Tryz.prog 28 [.agg l.cells, .one (.ints .u8 b), .one (.int .i64 a)] [(true, [.rd (.int .i64 (aq l b a).1.f0), .rd (.int .i64 (aq l b a).1.f1), .own 5 (.ints .u8 (aq l b a).1.f2), .rd (.int .i64 (aq l b a).1.f3), .own 5 (.ints .u8 (aq l b a).1.f4)]), (false, [.rd (.int .i64 (aq l b a).2.1)]), (false, [.rd (.int .i64 (aq l b a).2.2)])] := by
 refine RO.intro Tryz.func28 rfl 16 rfl (le_ok rfl) fun w Z => ?_
 refine T.bnd 1 0 rfl rfl fun hb_1_0 => ?_
 simp only [D.size, List.length_map] at hb_1_0
 refine T.sr [(3, (.one (.ptr 3 0))), (6, (.one (.ptr 6 0))), (7, (pI 0)), (8, (pI 0))] [(3, (46, (c_3 l))), (6, (26, c_58))] ?_
 refine T.sg ?_
 refine TL.rx 3 [(9, (.agg (c_3 l))), (10, (pS b)), (11, (pI a))] [] ?_
 have nn1 := @getVote_sm l b a p_60
 refine TL.c (Step.cz (ok_impl_Vote_ l b a p_3 p_0)) ?_
 refine TL.rl [(7, (pI (aq l b a).2.1)), (8, (pI (aq l b a).2.2))] [(6, (26, [cI (aq l b a).1.f0, cI (aq l b a).1.f1, .row 3012 [], cI (aq l b a).1.f3, .row 5012 []]))] ?_
 refine T.ret ?_
 refine ⟨_, (.cons rfl (.cons rfl (.cons rfl .nil))), rfl, _, (.r rfl (.r rfl (.o ?_ (.r rfl (.o ?_ (.r rfl (.r rfl .nil)))))))⟩ <;> exact p_122
theorem ok_impl_BitsSize (n : Int) (h0_ : n ≤ 9223372036854775807) : RO Tryz.prog 136 [.one (.int .i64 n)] [(false, [.rd (.int .i64 (bitsSize n))])] := by
 refine RO.intro Tryz.func136 rfl 9 rfl (le_ok rfl) fun w Z => ?_
 refine T.sr [(2, (pI 0))] [] ?_
 refine T.seq ?_
 refine T.sr [(4, (pB (decide (n < 1))))] [] ?_
 refine T.ci rfl (fun h1 => ?_) (fun h1 => ?_)
 ·refine T.sr [(2, (pI 0))] [] ?_
  refine T.ret ?_
  exact p_168
 refine T.skip (T.sg ?_)
 refine TL.rx 1 [(5, (pI n))] [] ?_
 refine TL.sb (n - 1) ?_
 refine TL.c (Step.bin (r := .int .i64 ((n - 1) / 8)) rfl rfl (lt_ok rfl) rfl rfl (Bin.quo (k := .i64) (a := (n - 1)) (b := 8) (by decide) (by rw [Int.tdiv_eq_ediv_of_nonneg (by first | omega | (simp; omega))]; exact wrap_ok (by first | omega | (simp; omega)) (by first | omega | (simp; omega))))) ?_
 refine TL.ad (((n - 1) / 8) + 1) ?_
 refine TL.rl [(2, (pI (((n - 1) / 8) + 1)))] [] ?_
 refine T.ret ?_
 exact p_168
theorem ok_impl_BitsHas (b : List Int) (i : Int) (h0_ : U8s b) (h1_ : b.length ≤ 17592186044416) (h2_ : i ≤ 9223372036854775807) : RO Tryz.prog 158 [.one (.ints .u8 b), .one (.int .i64 i)] [(false, [.rd (.bool (bitHas b i))])] := by
 refine RO.intro Tryz.func158 rfl 23 rfl (le_ok rfl) fun w Z => ?_
 refine T.bnd 0 0 rfl rfl fun hb_0_0 => ?_
 simp only [D.size, List.length_map] at hb_0_0
 have hu_ := getD_u8 h0_ (i / 8).toNat
 have hp_ := div_pow_bd hu_.1 hu_.2 (i % 8).toNat
 refine T.sr [(4, (pB false))] [] ?_
 refine T.sg ?_
 refine TL.rx 2 [(5, (pI i)), (6, (pS b))] [] ?_
 refine TL.c (Step.ln 5 1 (.ints .u8 b)) ?_
 refine TL.c (Step.bin (r := .int .i64 (8 * (b.length : Int))) rfl rfl (lt_ok rfl) rfl rfl (Bin.mul (a := 8) (b := (b.length : Int)) (by first | exact wrap_ok (by first | omega | exact hp_.1 | exact hp_.2 | (simp; omega)) (by first | omega | exact hp_.1 | exact hp_.2 | (simp; omega)) | rfl))) ?_
 refine TL.c (Step.bin (r := .int .i64 ((8 * (b.length : Int)) - 1)) rfl rfl (lt_ok rfl) rfl rfl (Bin.sub (a := (8 * (b.length : Int))) (b := 1) (by first | exact wrap_ok (by first | omega | exact hp_.1 | exact hp_.2 | (simp; omega)) (by first | omega | exact hp_.1 | exact hp_.2 | (simp; omega)) | rfl))) ?_
 refine TL.c (Step.cz (ok_impl_within i 0 ((8 * (b.length : Int)) - 1))) ?_
 refine TL.rx 1 [(11, (pB (decide (0 ≤ i ∧ i ≤ ((8 * (b.length : Int)) - 1)))))] [] ?_
 rcases Bool.eq_false_or_eq_true (decide (0 ≤ i ∧ i ≤ ((8 * (b.length : Int)) - 1))) with hb1 | hb1
 ·refine TL.known 11 hb1 rfl ?_
  have hb1' := hb1
  replace hb1' := of_decide_eq_true hb1'
  refine TL.rx 2 [(12, (pS b)), (13, (pI i))] [] ?_
  refine TL.gy 11 (Step.bin (r := .int .i64 (i / 8)) rfl rfl (lt_ok rfl) rfl rfl (Bin.quo (k := .i64) (a := i) (b := 8) (by decide) p_73)) ?_
  refine TL.gy 11 (Step.index (e := 5) (z := 1) (i := (i / 8)) rfl rfl (lt_ok rfl) p_6 rfl rfl rfl (lt_ok rfl) rfl p_71 (by simp only [D.size]; first | omega | exact hp_.1 | exact hp_.2 | (simp; omega))) ?_
  refine TL.gy 11 (Step.load (e := (.int .u8 (b.getD (i / 8).toNat 0))) rfl rfl (lt_ok rfl) p_6 rfl rfl) ?_
  refine TL.rx 1 [(17, (pI i))] [] ?_
  refine TL.gy 11 (Step.bin (r := .int .i64 (i % 8)) rfl rfl (lt_ok rfl) rfl rfl (Bin.rem (k := .i64) (a := i) (b := 8) (by decide) (Int.tmod_eq_emod_of_nonneg p_71))) ?_
  refine TL.gy 11 (Step.bin (r := .int .u8 ((b.getD (i / 8).toNat 0) / 2 ^ ((i % 8)).toNat)) rfl rfl (lt_ok rfl) rfl rfl (Bin.shr (k := .u8) (k' := .i64) (a := (b.getD (i / 8).toNat 0)) (b := (i % 8)) p_71 (shr_ok p_71 (by show _ < ((8 : Nat) : Int); first | omega | exact hp_.1 | exact hp_.2 | (simp; omega))))) ?_
  refine TL.gy 11 (Step.bin (r := .int .u8 (((b.getD (i / 8).toNat 0) / 2 ^ ((i % 8)).toNat) % 2)) rfl rfl (lt_ok rfl) rfl rfl (Bin.and (k := .u8) (a := ((b.getD (i / 8).toNat 0) / 2 ^ ((i % 8)).toNat)) (b := 1) (and1_u8 p_71 p_71))) ?_
  refine TL.rl [(4, (pB (decide ((((b.getD (i / 8).toNat 0) / 2 ^ ((i % 8)).toNat) % 2) = 1))))] [] ?_
  refine T.ret ?_
  exact p_158
 refine TL.known 11 hb1 rfl ?_
 have hb1' := hb1
 replace hb1' := of_decide_eq_false hb1'
 refine TL.rl [(4, (pB false))] [] ?_
 refine T.ret ?_
 exact p_158
theorem ok_impl_BitsList (b : List Int) (h0_ : U8s b) (h1_ : b.length ≤ 1099511627776) : RO Tryz.prog 150 [.one (.ints .u8 b)] [(false, [.own 3 (.ints .i64 (bitList b))])] := by
 refine RO.intro Tryz.func150 rfl 21 rfl (le_ok rfl) fun w Z => ?_
 refine T.bnd 0 0 rfl rfl fun hb_0_0 => ?_
 simp only [D.size, List.length_map] at hb_0_0
 refine T.sr [(2, (.one (.nil)))] [] ?_
 refine T.sg ?_
 refine TL.c (Step.lt 3 1 8 [] [] (.ints .i64 [])) ?_
 refine TL.rl [(3, (.one (.row 5 [])))] [] ?_
 refine T.seq (T.sg ?_)
 refine TL.rx 1 [(6, (pS b))] [] ?_
 refine TL.c (Step.ln 5 1 (.ints .u8 b)) ?_
 refine TL.ml (8 * (b.length : Int)) ?_
 refine TL.rl [(9, (pI 0))] [] ?_
 refine T.block ?_
 refine T.loop (ι := Nat × (List Int)) (fun xx_ => { tm := [(0, (pS b)), (2, (.one (.nil))), (8, (pI (8 * (b.length : Int)))), (9, (pI ((xx_.1) : Int))), (3, (.one (.row 5 [])))], rows := [(5, (3, (.ints .i64 (xx_.2))))], boxes := [] }) (fun xx_ => (xx_.1) ≤ 8 * b.length ∧ (xx_.2) ++ bitsGo b (8 * b.length - (xx_.1)) (xx_.1) = bitList b ∧ (xx_.2).length ≤ (xx_.1)) (fun xx_ => 8 * b.length - (xx_.1)) (0, []) ?_ ?_ ?_
 · refine Env.le_mk ⟨rfl, rfl, rfl, ?_, rfl, trivial⟩ ⟨?_, trivial⟩ trivial <;> exact p_62
 · (dsimp only; refine ⟨Nat.zero_le _, rfl, Nat.zero_le _⟩)
 intro xx_ hx
 obtain ⟨i, o⟩ := xx_
 try dsimp only at hx ⊢
 obtain ⟨hx1, hx2, hx3⟩ := hx
 refine T.sr [(10, (pB (decide ((i : Int) < (8 * (b.length : Int))))))] [] ?_
 refine T.seq ?_
 refine T.ci rfl (fun h1 => ?_) (fun h1 => ?_)
 ·refine T.skip (T.seq (T.block ?_))
  refine T.sr [(4, (pI (i : Int)))] [] ?_
  refine T.sg ?_
  refine TL.rx 2 [(12, (pS b)), (13, (pI (i : Int)))] [] ?_
  refine TL.c (Step.cz (ok_impl_BitsHas b (i : Int) p_3 p_0 (by first | omega | (have := hn_ (by first | assumption | simpa using ‹(!bitsOk b n) = false›); omega)))) ?_
  refine TL.nil ?_
  refine T.cond (b := bitHas b (i : Int)) rfl (fun h2 => ?_) (fun h2 => ?_)
  ·refine T.region ?_
   refine TL.rx 2 [(15, (.one (.row 5 []))), (16, (pI (i : Int)))] [] ?_
   refine TL.c (Step.lt 3 1 8 [.tmp 16] [[cI (i : Int)]] (.ints .i64 [(i : Int)])) ?_
   refine TL.c (Step.ap 3 1 8 (.ints .i64 [(i : Int)]) (.ints .i64 (o ++ [(i : Int)])) (.copy rfl rfl rfl p_101)) ?_
   refine TL.rl [(3, (.one (.row 5 [])))] [] ?_
   refine T.region ?_
   refine TL.ad ((i : Int) + 1) ?_
   refine TL.rl [(9, (pI ((i : Int) + 1)))] [] ?_
   refine ⟨(i + 1, o ++ [(i : Int)]), by (refine ⟨by omega, ?_, by simp only [List.length_append, List.length_cons, List.length_nil]; omega⟩; rw [← hx2, bitsGo_next b (n := 8 * b.length) (i := i) p_4]; first | (rw [if_pos p_3]; simp only [List.append_assoc]; done) | (rw [if_neg (by simp [*])]; rfl)), by (dsimp only; omega), Env.le_mk ⟨rfl, rfl, rfl, ?_, rfl, trivial⟩ ⟨?_, trivial⟩ trivial⟩ <;> exact p_62
  refine T.skip (T.region ?_)
  refine TL.ad ((i : Int) + 1) ?_
  refine TL.rl [(9, (pI ((i : Int) + 1)))] [] ?_
  refine ⟨(i + 1, o), by (refine ⟨by omega, ?_, by simp only [List.length_append, List.length_cons, List.length_nil]; omega⟩; rw [← hx2, bitsGo_next b (n := 8 * b.length) (i := i) p_4]; first | (rw [if_pos p_3]; simp only [List.append_assoc]; done) | (rw [if_neg (by simp [*])]; rfl)), by (dsimp only; omega), Env.le_mk ⟨rfl, rfl, rfl, ?_, rfl, trivial⟩ ⟨rfl, trivial⟩ trivial⟩ <;> exact p_62
 refine T.exit ?_
 refine T.sr [(2, (.one (.row 5 [])))] [] ?_
 refine T.ret ?_
 exact p_177
theorem ok_impl_BitsOk (b : List Int) (n : Int) (h0_ : U8s b) (h1_ : b.length ≤ 1099511627776) : RO Tryz.prog 137 [.one (.ints .u8 b), .one (.int .i64 n)] [(false, [.rd (.bool (bitsOk b n))])] := by
 refine RO.intro Tryz.func137 rfl 28 rfl (le_ok rfl) fun w Z => ?_
 refine T.bnd 0 0 rfl rfl fun hb_0_0 => ?_
 simp only [D.size, List.length_map] at hb_0_0
 refine T.sr [(4, (pB false))] [] ?_
 refine T.seq (T.sg ?_)
 refine TL.rx 1 [(7, (pI n))] [] ?_
 refine TL.c (Step.cz (ok_impl_within n 1 10)) ?_
 refine TL.rx 2 [(10, (pB (!(decide (1 ≤ n ∧ n ≤ 10)))))] [] ?_
 rcases Bool.eq_false_or_eq_true (!(decide (1 ≤ n ∧ n ≤ 10))) with hb1 | hb1
 ·refine TL.known 10 hb1 rfl ?_
  have hb1' := hb1
  replace hb1' : (decide (1 ≤ n ∧ n ≤ 10)) = false := by simpa only [Bool.not_eq_true', Bool.not_eq_false'] using hb1'
  replace hb1' := of_decide_eq_false hb1'
  refine TL.rl [(16, (pB true))] [] ?_
  refine T.ct ?_
  refine T.sr [(4, (pB false))] [] ?_
  refine T.ret ?_
  exact p_171
 refine TL.known 10 hb1 rfl ?_
 have hb1' := hb1
 replace hb1' : (decide (1 ≤ n ∧ n ≤ 10)) = true := by simpa only [Bool.not_eq_true', Bool.not_eq_false'] using hb1'
 replace hb1' := of_decide_eq_true hb1'
 refine TL.rx 1 [(11, (pS b))] [] ?_
 refine TL.gy 10 (Step.ln 5 1 (.ints .u8 b)) ?_
 refine TL.rx 1 [(13, (pI n))] [] ?_
 refine TL.gy 10 (Step.cz (ok_impl_BitsSize n p_0)) ?_
 refine TL.rl [(16, (pB (decide ((b.length : Int) ≠ (bitsSize n)))))] [] ?_
 refine T.ci rfl (fun h2 => ?_) (fun h2 => ?_)
 ·refine T.sr [(4, (pB false))] [] ?_
  refine T.ret ?_
  exact p_171
 refine T.skip (T.seq (T.sg ?_))
 refine TL.rx 1 [(17, (pS b))] [] ?_
 have nn3 := bitList_len b
 refine TL.c (Step.cz (ok_impl_BitsList b p_3 p_0)) ?_
 refine TL.c (Step.ln 3 1 (.ints .i64 (bitList b))) ?_
 refine TL.rl [(20, (pI 0))] [] ?_
 refine T.block ?_
 refine T.loop (ι := Nat) (fun xx_ => { tm := [(1, (pI n)), (18, (.one (.row 1018 []))), (19, (pI ((bitList b).length : Int))), (20, (pI (xx_ : Int)))], rows := [(1018, (3, (.ints .i64 (bitList b))))], boxes := [] }) (fun xx_ => xx_ ≤ (bitList b).length ∧ ((bitList b).take xx_).all (fun x => decide (x < n)) = true) (fun xx_ => (bitList b).length - xx_) 0 ?_ ?_ ?_
 · refine Env.le_mk ⟨rfl, rfl, rfl, ?_, trivial⟩ ⟨rfl, trivial⟩ trivial <;> exact p_86
 · (refine ⟨Nat.zero_le _, by rw [List.take_zero]; rfl⟩)
 intro i hx
 try dsimp only at hx ⊢
 obtain ⟨hx1, hx2⟩ := hx
 refine T.sr [(21, (pB (decide ((i : Int) < ((bitList b).length : Int)))))] [] ?_
 refine T.seq ?_
 refine T.ci rfl (fun h4 => ?_) (fun h4 => ?_)
 ·refine T.skip (T.seq (T.block (T.sg ?_)))
  refine TL.c (Step.index_row (e := 3) (z := 1) (i := (i : Int)) rfl rfl (lt_ok rfl) p_6 rfl rfl rfl rfl (lt_ok rfl) rfl p_17 p_112) ?_
  refine TL.c (Step.load_row (c := cI ((bitList b).getD i 0)) rfl rfl (lt_ok rfl) p_6 rfl rfl rfl) ?_
  refine TL.rl [(6, (pI ((bitList b).getD i 0)))] [] ?_
  refine T.sr [(26, (pB (decide (n ≤ ((bitList b).getD i 0)))))] [] ?_
  refine T.ci rfl (fun h5 => ?_) (fun h5 => ?_)
  ·refine T.sr [(4, (pB false))] [] ?_
   refine T.ret ?_
   exact p_171
  refine T.skip (T.region ?_)
  refine TL.ad ((i : Int) + 1) ?_
  refine TL.rl [(20, (pI ((i : Int) + 1)))] [] ?_
  refine ⟨i + 1, by (refine ⟨by omega, all_step p_4 hx2 p_4⟩), by first | omega | (dsimp only; omega), Env.le_mk ⟨rfl, rfl, rfl, ?_, trivial⟩ ⟨rfl, trivial⟩ trivial⟩ <;> exact p_86
 refine T.exit ?_
 refine T.sr [(4, (pB true))] [] ?_
 refine T.ret ?_
 exact p_171
theorem ok_impl_GetBits (b : List Int) (a : Int) (n : Int) (h0_ : U8s b) (h1_ : b.length ≤ 1048576) : RO Tryz.prog 113 [.one (.ints .u8 b), .one (.int .i64 a), .one (.int .i64 n)] [(false, [.own 5 (.ints .u8 (ah b a n).1)]), (false, [.rd (.int .i64 (ah b a n).2.1)]), (false, [.rd (.int .i64 (ah b a n).2.2)])] := by
 refine RO.intro Tryz.func113 rfl 33 rfl (le_ok rfl) fun w Z => ?_
 refine T.bnd 0 0 rfl rfl fun hb_0_0 => ?_
 simp only [D.size, List.length_map] at hb_0_0
 have hu_ := getRaw_u8 h0_ a (bitsSize n)
 refine T.sr [(6, (.one (.nil))), (7, (pI 0)), (8, (pI 0))] [] ?_
 refine T.seq (T.sg ?_)
 refine TL.rx 1 [(12, (pI n))] [] ?_
 refine TL.c (Step.cz (ok_impl_within n 1 10)) ?_
 refine TL.rl [(14, (pB (!(decide (1 ≤ n ∧ n ≤ 10)))))] [] ?_
 refine T.cni rfl (fun h1 => ?_) (fun h1 => ?_)
 ·refine T.sr [(6, (.one (.nil))), (7, (pI 0)), (8, (pI 5))] [] ?_
  refine T.ret ?_
  exact p_139
 refine T.skip (T.sg ?_)
 refine TL.rx 3 [(16, (pS b)), (17, (pI a)), (18, (pI n))] [] ?_
 refine TL.c (Step.cz (ok_impl_BitsSize n p_0)) ?_
 have nn2 := getRaw_bd b a (bitsSize n)
 refine TL.c (Step.cz (ok_impl_GetRaw b a (bitsSize n) p_0)) ?_
 refine TL.rl [(9, (.one (.row 1020 []))), (10, (pI (av b a (bitsSize n)).2.1)), (11, (pI (av b a (bitsSize n)).2.2))] [] ?_
 refine T.seq ?_
 refine T.sr [(25, (pB (decide ((av b a (bitsSize n)).2.2 ≠ 0))))] [] ?_
 refine T.ci rfl (fun h3 => ?_) (fun h3 => ?_)
 ·refine T.sr [(6, (.one (.nil))), (7, (pI 0)), (8, (pI (av b a (bitsSize n)).2.2))] [] ?_
  refine T.ret ?_
  exact p_139
 refine T.skip (T.seq (T.sg ?_))
 refine TL.rx 2 [(27, (.one (.row 1020 []))), (28, (pI n))] [] ?_
 refine TL.c (Step.cz (ok_impl_BitsOk (av b a (bitsSize n)).1 n p_3 p_0)) ?_
 refine TL.rl [(30, (pB (!(bitsOk (av b a (bitsSize n)).1 n))))] [] ?_
 refine T.cn rfl (fun h4 => ?_) (fun h4 => ?_)
 ·refine T.sr [(6, (.one (.nil))), (7, (pI 0)), (8, (pI 4))] [] ?_
  refine T.ret ?_
  exact p_139
 refine T.skip ?_
 refine T.sr [(6, (.one (.row 1020 []))), (7, (pI (av b a (bitsSize n)).2.1)), (8, (pI 0))] [] ?_
 refine T.ret ?_
 exact p_182
theorem ok_math_bits_OnesCount8 (x : Int) (h0_ : 0 ≤ x ∧ x ≤ 255) : RO Tryz.prog 138 [.one (.int .u8 x)] [(false, [.rd (.int .i64 (ones x))])] := by
 refine RO.intro Tryz.func138 rfl 6 rfl (le_ok rfl) fun w Z => ?_
 have ho_ := ones_bd x
 refine T.sr [(2, (pI 0))] [] ?_
 refine T.sg ?_
 refine TL.rx 1 [(3, (.one (.d (.int .u8 x))))] [] ?_
 refine TL.c (Step.index_str (c := (ones x)) rfl rfl (lt_ok rfl) p_6 rfl rfl p_17 (by obtain ⟨n, hn⟩ : ∃ n : Fin 256, x = ((n.val : Nat) : Int) := ⟨⟨x.toNat, by omega⟩, by simp only; omega⟩; subst hn; clear h0_ ho_; revert n; decide +kernel)) ?_
 refine TL.c (Step.conv (c := (ones x)) rfl rfl (lt_ok rfl) p_6 p_6 rfl (wrap_ok p_17 p_17)) ?_
 refine TL.rl [(2, (pI (ones x)))] [] ?_
 refine T.ret ?_
 exact ⟨_, (.cons rfl .nil), rfl, _, (.r rfl .nil)⟩
theorem ok_impl_BitsCount (b : List Int) (h0_ : U8s b) (h1_ : b.length ≤ 1099511627776) : RO Tryz.prog 114 [.one (.ints .u8 b)] [(false, [.rd (.int .i64 ((bitList b).length : Int))])] := by
 refine RO.intro Tryz.func114 rfl 18 rfl (le_ok rfl) fun w Z => ?_
 refine T.bnd 0 0 rfl rfl fun hb_0_0 => ?_
 simp only [D.size, List.length_map] at hb_0_0
 refine T.sr [(2, (pI 0))] [] ?_
 refine T.sr [(3, (pI 0))] [] ?_
 refine T.seq (T.sg ?_)
 refine TL.rx 1 [(6, (pS b))] [] ?_
 refine TL.c (Step.ln 5 1 (.ints .u8 b)) ?_
 refine TL.rl [(8, (pI 0))] [] ?_
 refine T.block ?_
 refine T.loop (ι := Nat × Int) (fun xx_ => { tm := [(2, (pI 0)), (6, (pS b)), (7, (pI (b.length : Int))), (8, (pI ((xx_.1) : Int))), (3, (pI (xx_.2)))], rows := [], boxes := [] }) (fun xx_ => (xx_.1) ≤ b.length ∧ 0 ≤ (xx_.2) ∧ (xx_.2) ≤ 8 * (xx_.1) ∧ (xx_.2) + onesSum (b.drop (xx_.1)) = ((bitList b).length : Int)) (fun xx_ => b.length - (xx_.1)) (0, 0) ?_ ?_ ?_
 · refine Env.le_mk ⟨rfl, rfl, rfl, ?_, ?_, trivial⟩ trivial trivial <;> exact p_67
 · (dsimp only; refine ⟨Nat.zero_le _, by omega, by omega, by rw [List.drop_zero, onesSum_all]; omega⟩)
 intro xx_ hx
 obtain ⟨i, c⟩ := xx_
 try dsimp only at hx ⊢
 obtain ⟨hx1, hx2, hx3, hx4⟩ := hx
 have hob_ := ones_bd (b.getD i 0)
 refine T.sr [(9, (pB (decide ((i : Int) < (b.length : Int)))))] [] ?_
 refine T.seq ?_
 refine T.ci rfl (fun h1 => ?_) (fun h1 => ?_)
 ·refine T.skip (T.seq (T.block (T.sg ?_)))
  refine TL.c (Step.index (e := 5) (z := 1) (i := (i : Int)) rfl rfl (lt_ok rfl) p_6 rfl rfl rfl (lt_ok rfl) rfl p_17 p_39) ?_
  refine TL.c (Step.load (e := (.int .u8 (b.getD i 0))) rfl rfl (lt_ok rfl) p_6 rfl rfl) ?_
  refine TL.rl [(5, (.one (.d (.int .u8 (b.getD i 0)))))] [] ?_
  refine T.region ?_
  refine TL.rx 2 [(12, (pI c)), (13, (.one (.d (.int .u8 (b.getD i 0)))))] [] ?_
  have nn2 := ones_bd (b.getD i 0)
  refine TL.c (Step.cz (ok_math_bits_OnesCount8 (b.getD i 0) (by first | assumption | exact getD_u8 (by assumption) _ | omega))) ?_
  refine TL.ad (c + (ones (b.getD i 0))) ?_
  refine TL.rl [(3, (pI (c + (ones (b.getD i 0)))))] [] ?_
  refine T.region ?_
  refine TL.ad ((i : Int) + 1) ?_
  refine TL.rl [(8, (pI ((i : Int) + 1)))] [] ?_
  refine ⟨(i + 1, c + (ones (b.getD i 0))), by (try dsimp only); (refine ⟨by omega, by omega, by omega, ?_⟩; rw [← hx4, onesSum_drop b (i := i) p_4]; omega), by (dsimp only; omega), Env.le_mk ⟨rfl, rfl, rfl, ?_, ?_, trivial⟩ trivial trivial⟩ <;> exact p_67
 refine T.exit ?_
 refine T.sr [(2, (pI c))] [] ?_
 refine T.ret ?_
 refine ⟨_, (.cons rfl .nil), rfl, _, (.r ?_ .nil)⟩ <;> ((congr 1; rw [← hx4, List.drop_of_length_le p_4]; simp [onesSum]))
theorem ok_impl_readQc (b : List Int) (s : SRS) (l : SLimits) (h0_ : U8s b) (h1_ : b.length ≤ 1048576) : BX Tryz.prog 75 [.rd (.agg [(.int .i64 l.f0), (.int .i64 l.f1), (.int .i64 l.f2), (.int .i64 l.f3), (.int .i64 l.f4)]), .bx] 151 [.rd (.ints .u8 b), .rd (.int .i64 s.f0), .rd (.int .i64 s.f1)] [.rd (.ints .u8 b), .rd (.int .i64 (rdQc l b s).1.f0), .rd (.int .i64 (rdQc l b s).1.f1)] [(true, [.rd (.int .i64 (rdQc l b s).2.f0), .rd (.int .i64 (rdQc l b s).2.f1), .own 5 (.ints .u8 (rdQc l b s).2.f2), .own 5 (.ints .u8 (rdQc l b s).2.f3), .own 24 (.bss (rdQc l b s).2.f4)])] := by
 refine BX.intro Tryz.func75 rfl 55 rfl (le_ok rfl) (le_ok rfl) fun w Z IX pin hp => ?_
 refine T.sr [(2, (.one (.ptr 2 0))), (4, (.one (.ptr 4 0)))] [(2, (46, (c_3 l))), (4, (29, c_46))] ?_
 refine T.sg ?_
 refine TL.rx 1 [(6, (.one (.ptr 800 0)))] [] ?_
 have nn1 := @ay b p_3 s
 refine TL.c (Step.x2 800 (ok_impl_reader__num b s p_3 p_0)) ?_
 refine TL.rx 1 [(8, (.one (.ptr 800 0)))] [] ?_
 have nn2 := @ay b p_3 (ab b s).1
 refine TL.c (Step.x2 800 (ok_impl_reader__num b (ab b s).1 p_3 p_0)) ?_
 refine TL.rx 1 [(10, (.one (.ptr 800 0)))] [] ?_
 have nn3 := rdRaw_len b (ab b (ab b s).1).1 32
 refine TL.c (Step.x2 800 (ok_impl_reader__hash b (ab b (ab b s).1).1 p_3 p_0)) ?_
 refine TL.rl [(5, (.one (.ptr 5 0)))] [(5, (29, [cI (ab b s).2, cI (ab b (ab b s).1).2, .row 4011 [], .nil, .nil]))] ?_
 refine T.seq ?_
 refine T.sr [(17, (pB (decide ((ae b (ab b (ab b s).1).1 32).1.f1 ≠ 0))))] [] ?_
 refine T.ci rfl (fun h4 => ?_) (fun h4 => ?_)
 ·refine T.sr [] [(4, (29, [cI (ab b s).2, cI (ab b (ab b s).1).2, .row 4011 [], .nil, .nil]))] ?_
  refine T.ret ?_
  refine ⟨_, _, rfl, rfl, (.cons rfl .nil), rfl, _, (.r rfl (.r ?_ (.r ?_ (.r ?_ (.r ?_ (.o ?_ (.nn ?_ (.nn ?_ .nil))))))))⟩ <;> exact p_16
 refine T.skip (T.seq ?_)
 have nn5 := @getBits_u8 b p_3 (ae b (ab b (ab b s).1).1 32).1.f0 l.f0
 have nn6 := getBits_len b (ae b (ab b (ab b s).1).1 32).1.f0 l.f0
 refine T.drawX [{ dst := some 20, pv := (.one (.ptr 800 0)) }, { dst := some 21, pv := (.one (.ptr 800 0)) }, { dst := some 22, pv := (.one (.ptr 800 0)) }, { dst := some 23, pv := (.one (.ptr 800 0)) }, { dst := some 24, pv := (.one (.ptr 800 0)) }, { dst := some 25, pv := (pS b) }, { dst := some 26, pv := (.one (.ptr 800 0)) }, { dst := some 27, pv := (.one (.ptr 800 0)) }, { dst := some 28, pv := (.one (.ptr 800 1)) }, { dst := some 29, pv := (pI (ae b (ab b (ab b s).1).1 32).1.f0) }, { dst := some 30, pv := (.one (.ptr 2 0)) }, { dst := some 31, pv := (pI l.f0) }, { dst := some 32, pv := (.tup [(false, [.row 1032 []]), (false, (c_69 b l s)), (false, (c_70 b l s))]), rows := [(1032, (5, (.ints .u8 (ah b (ae b (ab b (ab b s).1).1 32).1.f0 l.f0).1)))] }, { dst := some 19, pv := (.tup [(false, [.row 1032 []]), (false, (c_69 b l s)), (false, (c_70 b l s))]) }, { dst := some 33, pv := (.one (.row 1032 [])) }, { dst := some 34, pv := (pI (ah b (ae b (ab b (ab b s).1).1 32).1.f0 l.f0).2.1) }, { dst := some 35, pv := (pI (ah b (ae b (ab b (ab b s).1).1 32).1.f0 l.f0).2.2) }, { dst := some 36, pv := (.one (.ptr 5 3)) }, { box := some (5, (29, (c_75 b s))) }, { dst := some 37, pv := (.one (.ptr 800 0)) }, { dst := some 38, pv := (.one (.ptr 800 1)) }, { box := some (800, (151, [cS b, cI (ah b (ae b (ab b (ab b s).1).1 32).1.f0 l.f0).2.1, cI (ae b (ab b (ab b s).1).1 32).1.f1])) }, { dst := some 39, pv := (.one (.ptr 800 0)) }, { dst := some 40, pv := (.one (.ptr 800 2)) }, { box := some (800, (151, (c_54 b l s))) }] p_6 p_6 ?_ ?_
 ·refine .sk 12 ?_
  refine .cons (fun E A => OpStep.plain rfl (Step.call (f := 113) (xs := [.tmp 25, .tmp 29, .tmp 31]) (ps := [(pS b), (pI (ae b (ab b (ab b s).1).1 32).1.f0), (pI l.f0)]) false (g := .func 113) (t := 32) rfl rfl p_21 rfl p_6 (evs_cons (A.g 25) (evs_cons (A.g 29) (evs_cons (A.g 31) (rfl)))) (.cons (.one (.d _)) (.cons (.one (.d _)) (.cons (.one (.d _)) .nil))) (ok_impl_GetBits b (ae b (ab b (ab b s).1).1 32).1.f0 l.f0 p_3 p_0) (.inr rfl) (AtX.frs A) (fun x hx => by have := hp x hx; omega) rfl)) ?_
  refine .sk 12 ?_
  exact .nil _ _
 refine TL.wk [(1, (.one (.ptr 800 0))), (4, (.one (.ptr 4 0))), (5, (.one (.ptr 5 0)))] [(4011, (5, (.ints .u8 (ae b (ab b (ab b s).1).1 32).2))), (1032, (5, (.ints .u8 (ah b (ae b (ab b (ab b s).1).1 32).1.f0 l.f0).1)))] [(800, (151, (c_54 b l s))), (2, (46, (c_3 l))), (4, (29, c_46)), (5, (29, (c_75 b s)))] ?_
 refine TL.nil (T.seq (T.sg ?_))
 refine TL.rx 2 [(42, (.one (.row 1032 [])))] [] ?_
 have nn7 := bitList_len (ah b (ae b (ab b (ab b s).1).1 32).1.f0 l.f0).1
 refine TL.c (Step.call (f := 114) (xs := [.tmp 42]) (ps := [(.one (.row 1032 []))]) false (g := .func 114) rfl rfl (lt_ok rfl) rfl p_6 rfl (.cons (.one (.row rfl rfl rfl rfl)) .nil) (ok_impl_BitsCount (ah b (ae b (ab b (ab b s).1).1 32).1.f0 l.f0).1 (by first | assumption | exact fun x hx => by cases hx) p_116) (.inr rfl) rfl (fun x hx => by have := hp x hx; omega) rfl) ?_
 refine TL.rl [(44, (pI 0))] [] ?_
 refine T.block ?_
 refine T.nilrow 5 4 100504 24 29 (.bss []) (c_75 b s) rfl rfl rfl (fun x hx => by have := hp x hx; omega) rfl rfl trivial ?_
 refine T.loop (ι := Nat) (fun xx_ => { tm := [(1, (.one (.ptr 800 0))), (4, (.one (.ptr 4 0))), (5, (.one (.ptr 5 0))), (43, (pI ((bitList (ah b (ae b (ab b (ab b s).1).1 32).1.f0 l.f0).1).length : Int))), (44, (pI (xx_ : Int)))], rows := [(4011, (5, (.ints .u8 (ae b (ab b (ab b s).1).1 32).2))), (1032, (5, (.ints .u8 (ah b (ae b (ab b (ab b s).1).1 32).1.f0 l.f0).1))), (100504, (24, (.bss (ao b (⟨(ah b (ae b (ab b (ab b s).1).1 32).1.f0 l.f0).2.1, (ah b (ae b (ab b (ab b s).1).1 32).1.f0 l.f0).2.2⟩ : SRS) xx_).2)))], boxes := [(800, (151, [cS b, cI (ao b (⟨(ah b (ae b (ab b (ab b s).1).1 32).1.f0 l.f0).2.1, (ah b (ae b (ab b (ab b s).1).1 32).1.f0 l.f0).2.2⟩ : SRS) xx_).1.f0, cI (ao b (⟨(ah b (ae b (ab b (ab b s).1).1 32).1.f0 l.f0).2.1, (ah b (ae b (ab b (ab b s).1).1 32).1.f0 l.f0).2.2⟩ : SRS) xx_).1.f1])), (2, (46, (c_3 l))), (4, (29, c_46)), (5, (29, [cI (ab b s).2, cI (ab b (ab b s).1).2, .row 4011 [], .row 1032 [], .row 100504 []]))] }) (fun xx_ => xx_ ≤ (bitList (ah b (ae b (ab b (ab b s).1).1 32).1.f0 l.f0).1).length) (fun xx_ => (bitList (ah b (ae b (ab b (ab b s).1).1 32).1.f0 l.f0).1).length - xx_) 0 ?_ ?_ ?_
 · refine Env.le_mk ⟨rfl, rfl, rfl, rfl, ?_, trivial⟩ ⟨rfl, rfl, ?_, trivial⟩ ⟨?_, rfl, rfl, rfl, trivial⟩ <;> exact p_67
 · exact Nat.zero_le _
 intro i hx
 try dsimp only at hx ⊢
 have hl_ := rdTags_len b (⟨(ah b (ae b (ab b (ab b s).1).1 32).1.f0 l.f0).2.1, (ah b (ae b (ab b (ab b s).1).1 32).1.f0 l.f0).2.2⟩ : SRS) i
 have hz_ : (bitList []).length = 0 := rfl
 have hn_ := bitList_len (ah b (ae b (ab b (ab b s).1).1 32).1.f0 l.f0).1
 refine T.sr [(45, (pB (decide ((i : Int) < ((bitList (ah b (ae b (ab b (ab b s).1).1 32).1.f0 l.f0).1).length : Int)))))] [] ?_
 refine T.seq ?_
 refine T.ci rfl (fun h8 => ?_) (fun h8 => ?_)
 ·refine T.skip (T.seq (T.block ?_))
  have nn9 := rdRaw_len b (ao b (⟨(ah b (ae b (ab b (ab b s).1).1 32).1.f0 l.f0).2.1, (ah b (ae b (ab b (ab b s).1).1 32).1.f0 l.f0).2.2⟩ : SRS) i).1 32
  refine T.drawX [{ dst := some 46, pv := (.one (.ptr 5 4)) }, { dst := some 47, pv := (.one (.row 100504 [])) }, { dst := some 48, pv := (.one (.ptr 800 0)) }, { dst := some 49, pv := (.one (.row 4049 [])), rows := [(4049, (5, (.ints .u8 (ae b (ao b (⟨(ah b (ae b (ab b (ab b s).1).1 32).1.f0 l.f0).2.1, (ah b (ae b (ab b (ab b s).1).1 32).1.f0 l.f0).2.2⟩ : SRS) i).1 32).2)))], box := some (800, (151, (c_15 b i l s))) }, { dst := some 50, pv := (.one (.row 50 [])), rows := [(50, (24, (.bss [(ae b (ao b (⟨(ah b (ae b (ab b (ab b s).1).1 32).1.f0 l.f0).2.1, (ah b (ae b (ab b (ab b s).1).1 32).1.f0 l.f0).2.2⟩ : SRS) i).1 32).2])))], dead := [4049] }, { dst := some 51, pv := (.one (.row 500051 [])), rows := [(500051, (24, (.bss ((ao b (⟨(ah b (ae b (ab b (ab b s).1).1 32).1.f0 l.f0).2.1, (ah b (ae b (ab b (ab b s).1).1 32).1.f0 l.f0).2.2⟩ : SRS) i).2 ++ [(ae b (ao b (⟨(ah b (ae b (ab b (ab b s).1).1 32).1.f0 l.f0).2.1, (ah b (ae b (ab b (ab b s).1).1 32).1.f0 l.f0).2.2⟩ : SRS) i).1 32).2]))))], dead := [100504, 50] }, { dst := some 52, pv := (.one (.ptr 5 4)) }, { box := some (5, (29, [cI (ab b s).2, cI (ab b (ab b s).1).2, .row 4011 [], .row 1032 [], .row 500051 []])) }] p_6 p_6 ?_ ?_
  ·refine .sk 3 ?_
   refine .cons (fun E A => OpStep.plain rfl (Step.callXX2 (b := 800) (xs := [.tmp 48]) (ps := [(.one (.ptr 800 0))]) (bps := (c_44 b i l s)) (ss := []) (g := .func 111) (t := 49) (ok_impl_reader__hash b (ao b (⟨(ah b (ae b (ab b (ab b s).1).1 32).1.f0 l.f0).2.1, (ah b (ae b (ab b (ab b s).1).1 32).1.f0 l.f0).2.2⟩ : SRS) i).1 p_3 p_0) rfl rfl p_21 rfl p_6 (evs_cons (A.g 48) (rfl)) (.cons (.bx) .nil) (A.b 800 (x := (151, _))) (.rd (.rd (.rd .nil))) rfl (handX_fresh (fun x_ hx_ => A.fresh x_ (by exact hx_))) (fun x hx => by have := hp x hx; omega) rfl p_109)) ?_
   refine .cons (fun E A => OpStep.plain rfl (Step.litX (e := 24) (z := 1) (by_ := 24) (xs := [.tmp 49]) (pss := [[.row 4049 []]]) (es := [(.ints .u8 (ae b (ao b (⟨(ah b (ae b (ab b (ab b s).1).1 32).1.f0 l.f0).2.1, (ah b (ae b (ab b (ab b s).1).1 32).1.f0 l.f0).2.2⟩ : SRS) i).1 32).2)]) (ss := [4049]) (d := (.bss [(ae b (ao b (⟨(ah b (ae b (ab b (ab b s).1).1 32).1.f0 l.f0).2.1, (ah b (ae b (ab b (ab b s).1).1 32).1.f0 l.f0).2.2⟩ : SRS) i).1 32).2])) (t := 50) rfl rfl p_21 p_6 rfl rfl (.cons (by exact (congrArg PV.flat (A.g 49 (p := (.one (.row 4049 []))))).trans rfl) .nil) p_104 (le_ok rfl) (le_ok rfl) A.fn (.row (A.r 4049 (x := (5, _))) p_104 .nil) (A.fresh _ (List.mem_singleton.2 rfl)) p_104 (fun x_ hx_ => by have := hp x_ hx_; omega) rfl trivial rfl rfl)) ?_
   refine .cons (fun E A => OpStep.plain rfl (Step.appendX (e := 24) (z := 1) (by_ := 24) (d := (.bss (ao b (⟨(ah b (ae b (ab b (ab b s).1).1 32).1.f0 l.f0).2.1, (ah b (ae b (ab b (ab b s).1).1 32).1.f0 l.f0).2.2⟩ : SRS) i).2)) (dy := (.bss [(ae b (ao b (⟨(ah b (ae b (ab b (ab b s).1).1 32).1.f0 l.f0).2.1, (ah b (ae b (ab b (ab b s).1).1 32).1.f0 l.f0).2.2⟩ : SRS) i).1 32).2])) (d' := (.bss ((ao b (⟨(ah b (ae b (ab b (ab b s).1).1 32).1.f0 l.f0).2.1, (ah b (ae b (ab b (ab b s).1).1 32).1.f0 l.f0).2.2⟩ : SRS) i).2 ++ [(ae b (ao b (⟨(ah b (ae b (ab b (ab b s).1).1 32).1.f0 l.f0).2.1, (ah b (ae b (ab b (ab b s).1).1 32).1.f0 l.f0).2.2⟩ : SRS) i).1 32).2]))) (ss := [50]) 500051 (t := 51) rfl rfl p_21 p_6 (A.g 47) (A.r 100504 (x := (24, _))) rfl (lt_ok rfl) (A.g 50) (.move (A.r 50 (x := (24, _)))) p_104 rfl p_19 p_19 (fun x_ hx_ => by have := hp x_ hx_; omega) (A.fresh _ (List.mem_singleton.2 rfl)) p_104 (fun x_ hx_ => by have := hp x_ hx_; omega))) ?_
   refine .sk 2 ?_
   exact .nil _ _
  refine TL.wk [(1, (.one (.ptr 800 0))), (4, (.one (.ptr 4 0))), (5, (.one (.ptr 5 0))), (43, (pI ((bitList (ah b (ae b (ab b (ab b s).1).1 32).1.f0 l.f0).1).length : Int))), (44, (pI (i : Int)))] [(4011, (5, (.ints .u8 (ae b (ab b (ab b s).1).1 32).2))), (1032, (5, (.ints .u8 (ah b (ae b (ab b (ab b s).1).1 32).1.f0 l.f0).1))), (500051, (24, (.bss ((ao b (⟨(ah b (ae b (ab b (ab b s).1).1 32).1.f0 l.f0).2.1, (ah b (ae b (ab b (ab b s).1).1 32).1.f0 l.f0).2.2⟩ : SRS) i).2 ++ [(ae b (ao b (⟨(ah b (ae b (ab b (ab b s).1).1 32).1.f0 l.f0).2.1, (ah b (ae b (ab b (ab b s).1).1 32).1.f0 l.f0).2.2⟩ : SRS) i).1 32).2]))))] [(800, (151, (c_15 b i l s))), (2, (46, (c_3 l))), (4, (29, c_46)), (5, (29, [cI (ab b s).2, cI (ab b (ab b s).1).2, .row 4011 [], .row 1032 [], .row 500051 []]))] ?_
  refine TL.ren 500051 100504 rfl (fun x hx => by have := hp x hx; omega) ?_
  refine TL.nil (T.region ?_)
  refine TL.ad ((i : Int) + 1) ?_
  refine TL.rl [(44, (pI ((i : Int) + 1)))] [] ?_
  refine ⟨i + 1, by omega, by first | omega | (dsimp only; omega), Env.le_mk ⟨rfl, rfl, rfl, rfl, ?_, trivial⟩ ⟨rfl, rfl, ?_, trivial⟩ ⟨?_, rfl, rfl, rfl, trivial⟩⟩ <;> exact p_67
 refine T.exit ?_
 refine T.sr [] [(4, (29, [cI (ab b s).2, cI (ab b (ab b s).1).2, .row 4011 [], .row 1032 [], .row 100504 []]))] ?_
 refine T.ret ?_
 exact p_163
theorem ok_impl_Qc_ (l : SLimits) (b : List Int) (a : Int) (h0_ : U8s b) (h1_ : b.length ≤ 1048576) : RO Tryz.prog 74 [.agg l.cells, .one (.ints .u8 b), .one (.int .i64 a), .one (.fn 75)] [(true, [.rd (.int .i64 (getQc l b a).1.f0), .rd (.int .i64 (getQc l b a).1.f1), .own 5 (.ints .u8 (getQc l b a).1.f2), .own 5 (.ints .u8 (getQc l b a).1.f3), .own 24 (.bss (getQc l b a).1.f4)]), (false, [.rd (.int .i64 (getQc l b a).2.1)]), (false, [.rd (.int .i64 (getQc l b a).2.2)])] := by
 refine RO.intro Tryz.func74 rfl 41 rfl (le_ok rfl) fun w Z => ?_
 refine T.bnd 1 0 rfl rfl fun hb_1_0 => ?_
 simp only [D.size, List.length_map] at hb_1_0
 refine T.sr [(4, (.one (.ptr 4 0))), (8, (.one (.ptr 8 0))), (9, (pI 0)), (10, (pI 0))] [(4, (46, (c_3 l))), (8, (29, c_46))] ?_
 refine T.sr [(11, (.one (.ptr 11 0)))] [(11, (29, c_46))] ?_
 refine T.seq (T.sg ?_)
 refine TL.rx 1 [(14, (.agg (c_3 l)))] [] ?_
 refine TL.c (Step.cz (ok_impl_LimitsOk l)) ?_
 refine TL.rl [(16, (pB (!(limOk l))))] [] ?_
 refine T.cn rfl (fun h1 => ?_) (fun h1 => ?_)
 ·refine T.sr [(9, (pI 0)), (10, (pI 5))] [(8, (29, c_46))] ?_
  refine T.ret ?_
  exact p_160
 refine T.skip ?_
 refine T.sr [(12, (.one (.ptr 21 0)))] [(21, (151, [cS b, cI a, cI 0]))] ?_
 refine T.sg ?_
 refine TL.rx 3 [(22, (.one (.d (.fn 75)))), (23, (.agg (c_3 l))), (24, (.one (.ptr 21 0)))] [] ?_
 have nn2 := @rdQc_sm l b (⟨a, 0⟩ : SRS) p_60
 have nn3 := @rdQc_ok l b (⟨a, 0⟩ : SRS) p_3
 refine TL.c (Step.x2 21 (ok_impl_readQc b (⟨a, 0⟩ : SRS) l p_3 p_0)) ?_
 refine TL.rl [(13, (.one (.ptr 13 0)))] [(13, (29, (c_43 a b l)))] ?_
 refine T.seq ?_
 refine T.sr [(30, (pB (decide ((rdQc l b (⟨a, 0⟩ : SRS)).1.f1 ≠ 0))))] [] ?_
 refine T.ci rfl (fun h4 => ?_) (fun h4 => ?_)
 ·refine T.seq ?_
  refine T.drawX [{ dst := some 31, pv := (.agg c_46) }, { dst := some 32, pv := (.one (.ptr 21 0)) }, { dst := some 33, pv := (.one (.ptr 21 0)) }, { dst := some 34, pv := (.one (.ptr 21 2)) }, { dst := some 35, pv := (pI (rdQc l b (⟨a, 0⟩ : SRS)).1.f1) }, { box := some (8, (29, c_46)) }, { dst := some 9, pv := (pI 0) }, { dst := some 10, pv := (pI (rdQc l b (⟨a, 0⟩ : SRS)).1.f1) }] p_6 p_6 ?_ ?_
  ·refine .sk 8 ?_
   exact .nil _ _
  refine TL.wk [(8, (.one (.ptr 8 0))), (9, (pI 0)), (10, (pI (rdQc l b (⟨a, 0⟩ : SRS)).1.f1)), (12, (.one (.ptr 21 0))), (13, (.one (.ptr 13 0)))] [(6025, (5, (.ints .u8 (rdQc l b (⟨a, 0⟩ : SRS)).2.f2))), (7025, (5, (.ints .u8 (rdQc l b (⟨a, 0⟩ : SRS)).2.f3))), (8025, (24, (.bss (rdQc l b (⟨a, 0⟩ : SRS)).2.f4)))] [(4, (46, (c_3 l))), (8, (29, c_46)), (11, (29, c_46)), (21, (151, [cS b, cI (rdQc l b (⟨a, 0⟩ : SRS)).1.f0, cI (rdQc l b (⟨a, 0⟩ : SRS)).1.f1])), (13, (29, (c_43 a b l)))] ?_
  refine TL.nil (T.ret ?_)
  exact p_160
 refine T.skip (T.seq ?_)
 refine T.drawX [{ dst := some 36, pv := (.agg (c_43 a b l)) }, { dst := some 37, pv := (.one (.ptr 21 0)) }, { dst := some 38, pv := (.one (.ptr 21 0)) }, { dst := some 39, pv := (.one (.ptr 21 1)) }, { dst := some 40, pv := (pI (rdQc l b (⟨a, 0⟩ : SRS)).1.f0) }, { box := some (8, (29, (c_43 a b l))) }, { dst := some 9, pv := (pI (rdQc l b (⟨a, 0⟩ : SRS)).1.f0) }, { dst := some 10, pv := (pI 0) }] p_6 p_6 ?_ ?_
 ·refine .sk 8 ?_
  exact .nil _ _
 refine TL.wk [(8, (.one (.ptr 8 0))), (9, (pI (rdQc l b (⟨a, 0⟩ : SRS)).1.f0)), (10, (pI 0))] [(6025, (5, (.ints .u8 (rdQc l b (⟨a, 0⟩ : SRS)).2.f2))), (7025, (5, (.ints .u8 (rdQc l b (⟨a, 0⟩ : SRS)).2.f3))), (8025, (24, (.bss (rdQc l b (⟨a, 0⟩ : SRS)).2.f4)))] [(4, (46, (c_3 l))), (8, (29, (c_43 a b l))), (11, (29, c_46)), (21, (151, [cS b, cI (rdQc l b (⟨a, 0⟩ : SRS)).1.f0, cI (rdQc l b (⟨a, 0⟩ : SRS)).1.f1])), (13, (29, (c_43 a b l)))] ?_
 refine TL.nil (T.ret ?_)
 refine ⟨_, (.cons rfl (.cons rfl (.cons rfl .nil))), rfl, _, (.r ?_ (.r ?_ (.o ?_ (.o ?_ (.o ?_ (.r ?_ (.r ?_ .nil)))))))⟩ <;> exact p_31
theorem ok_impl_GetQc (l : SLimits) (b : List Int) (a : Int) (h0_ : U8s b) (h1_ : b.length ≤ 1048576) : RO Tryz.prog 29 [.agg l.cells, .one (.ints .u8 b), .one (.int .i64 a)] [(true, [.rd (.int .i64 (getQc l b a).1.f0), .rd (.int .i64 (getQc l b a).1.f1), .own 5 (.ints .u8 (getQc l b a).1.f2), .own 5 (.ints .u8 (getQc l b a).1.f3), .own 24 (.bss (getQc l b a).1.f4)]), (false, [.rd (.int .i64 (getQc l b a).2.1)]), (false, [.rd (.int .i64 (getQc l b a).2.2)])] := by
 refine RO.intro Tryz.func29 rfl 16 rfl (le_ok rfl) fun w Z => ?_
 refine T.bnd 1 0 rfl rfl fun hb_1_0 => ?_
 simp only [D.size, List.length_map] at hb_1_0
 refine T.sr [(3, (.one (.ptr 3 0))), (6, (.one (.ptr 6 0))), (7, (pI 0)), (8, (pI 0))] [(3, (46, (c_3 l))), (6, (29, c_46))] ?_
 refine T.sg ?_
 refine TL.rx 3 [(9, (.agg (c_3 l))), (10, (pS b)), (11, (pI a))] [] ?_
 have nn1 := @getQc_sm l b a p_60
 refine TL.c (Step.cz (ok_impl_Qc_ l b a p_3 p_0)) ?_
 refine TL.rl [(7, (pI (getQc l b a).2.1)), (8, (pI (getQc l b a).2.2))] [(6, (29, [cI (getQc l b a).1.f0, cI (getQc l b a).1.f1, .row 3012 [], .row 4012 [], .row 5012 []]))] ?_
 refine T.ret ?_
 refine ⟨_, (.cons rfl (.cons rfl (.cons rfl .nil))), rfl, _, (.r rfl (.r rfl (.o ?_ (.o ?_ (.o ?_ (.r rfl (.r rfl .nil)))))))⟩ <;> exact p_122
theorem ok_impl_SameBytes (a : List Int) (b : List Int) (h0_ : U8s a) (h1_ : U8s b) : RO Tryz.prog 118 [.one (.ints .u8 a), .one (.ints .u8 b)] [(false, [.rd (.bool (decide (a = b)))])] := by
 refine RO.intro Tryz.func118 rfl 10 rfl (le_ok rfl) fun w Z => ?_
 refine T.bnd 0 0 rfl rfl fun hb_0_0 => ?_
 simp only [D.size, List.length_map] at hb_0_0
 refine T.bnd 1 0 rfl rfl fun hb_1_0 => ?_
 simp only [D.size, List.length_map] at hb_1_0
 refine T.sr [(4, (pB false))] [] ?_
 refine T.sg ?_
 refine TL.rx 1 [(5, (pS a))] [] ?_
 refine TL.c (Step.toStr (e := 5) (xs := a) rfl rfl (lt_ok rfl) p_6 p_6 p_6 rfl rfl) ?_
 refine TL.rx 1 [(7, (pS b))] [] ?_
 refine TL.c (Step.toStr (e := 5) (xs := b) rfl rfl (lt_ok rfl) p_6 p_6 p_6 rfl rfl) ?_
 refine TL.rl [(4, (pB ((strOfNums a).toList == (strOfNums b).toList)))] [] ?_
 refine T.ret ?_
 exact p_189
theorem ok_impl_Head__matches (h : SHead) (h0_ : h.ok) : RO Tryz.prog 116 [.agg h.cells] [(false, [.rd (.bool (headFits h))])] := by
 refine RO.intro Tryz.func116 rfl 26 rfl (le_ok rfl) fun w Z => ?_
 obtain ⟨o0, o1, o2, o3, o4, o5, o6, o7, o8, o9⟩ := h0_
 refine T.sr [(1, (.one (.ptr 1 0))), (2, (pB false))] [(1, (31, [cI h.f0, cI h.f1, cI h.f2, cS h.f3, cS h.f4, cI h.f5.f0, cI h.f5.f1, cS h.f5.f2, cS h.f5.f3, .d (.bss h.f5.f4)]))] ?_
 refine T.sg ?_
 refine TL.rx 7 [(9, (pB (decide (h.f5.f0 < h.f0))))] [] ?_
 rcases Bool.eq_false_or_eq_true (decide (h.f5.f0 < h.f0)) with hb1 | hb1
 ·refine TL.known 9 hb1 rfl ?_
  refine TL.rx 5 [(12, (pI h.f5.f1)), (14, (pI h.f1))] [] ?_
  refine TL.gy 9 (Step.bin (r := .int .i64 (IntKind.i64.wrap (h.f1 - 1))) rfl rfl (lt_ok rfl) rfl rfl (Bin.sub (a := h.f1) (b := 1) (rfl))) ?_
  refine TL.rx 3 [(18, (pB (decide (h.f5.f1 = (IntKind.i64.wrap (h.f1 - 1))))))] [] ?_
  rcases Bool.eq_false_or_eq_true (decide (h.f5.f1 = (IntKind.i64.wrap (h.f1 - 1)))) with hb2 | hb2
  ·refine TL.known 18 hb2 rfl ?_
   refine TL.rx 5 [(21, (pS h.f5.f2)), (23, (pS h.f3))] [] ?_
   refine TL.gy 18 (Step.cz (ok_impl_SameBytes h.f5.f2 h.f3 p_60 p_60)) ?_
   refine TL.rl [(2, (pB (decide (h.f5.f2 = h.f3))))] [] ?_
   refine T.ret ?_
   exact p_149
  refine TL.known 18 hb2 rfl ?_
  refine TL.rl [(2, (pB false))] [] ?_
  refine T.ret ?_
  exact p_149
 refine TL.known 9 hb1 rfl ?_
 refine TL.rl [(2, (pB false))] [] ?_
 refine T.ret ?_
 exact p_149
theorem ok_impl_readHead (b : List Int) (s : SRS) (l : SLimits) (h0_ : U8s b) (h1_ : b.length ≤ 1048576) : BX Tryz.prog 77 [.rd (.agg [(.int .i64 l.f0), (.int .i64 l.f1), (.int .i64 l.f2), (.int .i64 l.f3), (.int .i64 l.f4)]), .bx] 151 [.rd (.ints .u8 b), .rd (.int .i64 s.f0), .rd (.int .i64 s.f1)] [.rd (.ints .u8 b), .rd (.int .i64 (af l b s).1.f0), .rd (.int .i64 (af l b s).1.f1)] [(true, [.rd (.int .i64 (af l b s).2.f0), .rd (.int .i64 (af l b s).2.f1), .rd (.int .i64 (af l b s).2.f2), .own 5 (.ints .u8 (af l b s).2.f3), .own 5 (.ints .u8 (af l b s).2.f4), .rd (.int .i64 (af l b s).2.f5.f0), .rd (.int .i64 (af l b s).2.f5.f1), .own 5 (.ints .u8 (af l b s).2.f5.f2), .own 5 (.ints .u8 (af l b s).2.f5.f3), .own 24 (.bss (af l b s).2.f5.f4)])] := by
 refine BX.intro Tryz.func77 rfl 36 rfl (le_ok rfl) (le_ok rfl) fun w Z IX pin hp => ?_
 refine T.sr [(2, (.one (.ptr 2 0))), (4, (.one (.ptr 4 0)))] [(2, (46, (c_3 l))), (4, (31, c_45))] ?_
 refine T.sg ?_
 refine TL.rx 1 [(6, (.one (.ptr 800 0)))] [] ?_
 have nn1 := @ay b p_3 s
 refine TL.c (Step.x2 800 (ok_impl_reader__num b s p_3 p_0)) ?_
 refine TL.rx 1 [(8, (.one (.ptr 800 0)))] [] ?_
 have nn2 := @ay b p_3 (ab b s).1
 refine TL.c (Step.x2 800 (ok_impl_reader__num b (ab b s).1 p_3 p_0)) ?_
 refine TL.rl [(5, (.one (.ptr 5 0)))] [(5, (31, [cI (ab b s).2, cI (ab b (ab b s).1).2, cI 0, .nil, .nil, cI 0, cI 0, .nil, .nil, .nil]))] ?_
 refine T.sg ?_
 refine TL.rx 4 [(11, (.one (.ptr 800 0))), (14, (pB (decide ((ab b (ab b s).1).2 ≠ 0))))] [] ?_
 refine TL.c (Step.x2 800 (ok_impl_reader__must b (ab b (ab b s).1).1 (decide ((ab b (ab b s).1).2 ≠ 0)) 5 p_3 p_0)) ?_
 refine TL.nil (T.sg ?_)
 refine TL.rx 3 [(16, (.one (.ptr 800 0))), (18, (pI l.f0))] [] ?_
 have nn3 := @ay b p_3 (ac (ab b (ab b s).1).1 (decide ((ab b (ab b s).1).2 ≠ 0)) 5)
 refine TL.c (Step.x2 800 (ok_impl_reader__below b (ac (ab b (ab b s).1).1 (decide ((ab b (ab b s).1).2 ≠ 0)) 5) l.f0 5 p_3 p_0)) ?_
 refine TL.rl [] [(5, (31, [cI (ab b s).2, cI (ab b (ab b s).1).2, cI (ai b (ac (ab b (ab b s).1).1 (decide ((ab b (ab b s).1).2 ≠ 0)) 5) l.f0 5).2, .nil, .nil, cI 0, cI 0, .nil, .nil, .nil]))] ?_
 refine T.sg ?_
 refine TL.rx 1 [(21, (.one (.ptr 800 0)))] [] ?_
 have nn4 := rdRaw_len b (ai b (ac (ab b (ab b s).1).1 (decide ((ab b (ab b s).1).2 ≠ 0)) 5) l.f0 5).1 32
 refine TL.c (Step.x2 800 (ok_impl_reader__hash b (ai b (ac (ab b (ab b s).1).1 (decide ((ab b (ab b s).1).2 ≠ 0)) 5) l.f0 5).1 p_3 p_0)) ?_
 refine TL.rx 1 [(23, (.one (.ptr 800 0)))] [] ?_
 have nn5 := rdRaw_len b (ae b (ai b (ac (ab b (ab b s).1).1 (decide ((ab b (ab b s).1).2 ≠ 0)) 5) l.f0 5).1 32).1 32
 refine TL.c (Step.x2 800 (ok_impl_reader__hash b (ae b (ai b (ac (ab b (ab b s).1).1 (decide ((ab b (ab b s).1).2 ≠ 0)) 5) l.f0 5).1 32).1 p_3 p_0)) ?_
 refine TL.rl [] [(5, (31, [cI (ab b s).2, cI (ab b (ab b s).1).2, cI (ai b (ac (ab b (ab b s).1).1 (decide ((ab b (ab b s).1).2 ≠ 0)) 5) l.f0 5).2, .row 4022 [], .row 4024 [], cI 0, cI 0, .nil, .nil, .nil]))] ?_
 refine T.sg ?_
 refine TL.rx 2 [(27, (.agg (c_3 l))), (28, (.one (.ptr 800 0)))] [] ?_
 have nn6 := @rdQc_sm l b (ae b (ae b (ai b (ac (ab b (ab b s).1).1 (decide ((ab b (ab b s).1).2 ≠ 0)) 5) l.f0 5).1 32).1 32).1 p_60
 have nn7 := @rdQc_ok l b (ae b (ae b (ai b (ac (ab b (ab b s).1).1 (decide ((ab b (ab b s).1).2 ≠ 0)) 5) l.f0 5).1 32).1 32).1 p_3
 refine TL.c (Step.x2 800 (ok_impl_readQc b (ae b (ae b (ai b (ac (ab b (ab b s).1).1 (decide ((ab b (ab b s).1).2 ≠ 0)) 5) l.f0 5).1 32).1 32).1 l p_3 p_0)) ?_
 refine TL.rl [] [(5, (31, (c_9 b l s)))] ?_
 refine T.sg ?_
 refine TL.rx 2 [(31, (.one (.ptr 800 0))), (32, (.agg (c_9 b l s)))] [] ?_
 refine TL.c (Step.call (f := 116) (xs := [.tmp 32]) (ps := [(.agg (c_9 b l s))]) false (g := .func 116) rfl rfl (lt_ok rfl) rfl p_6 rfl (.cons (.agg (.cons (.d _) (.cons (.d _) (.cons (.d _) (.cons (.row rfl rfl rfl rfl) (.cons (.row rfl rfl rfl rfl) (.cons (.d _) (.cons (.d _) (.cons (.row rfl rfl rfl rfl) (.cons (.row rfl rfl rfl rfl) (.cons (.row rfl rfl rfl rfl) .nil))))))))))) .nil) (ok_impl_Head__matches (⟨(ab b s).2, (ab b (ab b s).1).2, (ai b (ac (ab b (ab b s).1).1 (decide ((ab b (ab b s).1).2 ≠ 0)) 5) l.f0 5).2, (ae b (ai b (ac (ab b (ab b s).1).1 (decide ((ab b (ab b s).1).2 ≠ 0)) 5) l.f0 5).1 32).2, (ae b (ae b (ai b (ac (ab b (ab b s).1).1 (decide ((ab b (ab b s).1).2 ≠ 0)) 5) l.f0 5).1 32).1 32).2, (rdQc l b (ae b (ae b (ai b (ac (ab b (ab b s).1).1 (decide ((ab b (ab b s).1).2 ≠ 0)) 5) l.f0 5).1 32).1 32).1).2⟩ : SHead) (by first | assumption | exact rdHead_ok (l := l) (s := s) h0_)) (.inr rfl) rfl (fun x hx => by have := hp x hx; omega) rfl) ?_
 refine TL.c (Step.x2 800 (ok_impl_reader__must b (rdQc l b (ae b (ae b (ai b (ac (ab b (ab b s).1).1 (decide ((ab b (ab b s).1).2 ≠ 0)) 5) l.f0 5).1 32).1 32).1).1 (headFits (⟨(ab b s).2, (ab b (ab b s).1).2, (ai b (ac (ab b (ab b s).1).1 (decide ((ab b (ab b s).1).2 ≠ 0)) 5) l.f0 5).2, (ae b (ai b (ac (ab b (ab b s).1).1 (decide ((ab b (ab b s).1).2 ≠ 0)) 5) l.f0 5).1 32).2, (ae b (ae b (ai b (ac (ab b (ab b s).1).1 (decide ((ab b (ab b s).1).2 ≠ 0)) 5) l.f0 5).1 32).1 32).2, (rdQc l b (ae b (ae b (ai b (ac (ab b (ab b s).1).1 (decide ((ab b (ab b s).1).2 ≠ 0)) 5) l.f0 5).1 32).1 32).1).2⟩ : SHead)) 6 p_3 p_0)) ?_
 refine TL.nil ?_
 refine T.sr [] [(4, (31, (c_9 b l s)))] ?_
 refine T.ret ?_
 exact p_156
theorem ok_impl_Head_ (l : SLimits) (b : List Int) (a : Int) (h0_ : U8s b) (h1_ : b.length ≤ 1048576) : RO Tryz.prog 76 [.agg l.cells, .one (.ints .u8 b), .one (.int .i64 a), .one (.fn 77)] [(true, [.rd (.int .i64 (ax l b a).1.f0), .rd (.int .i64 (ax l b a).1.f1), .rd (.int .i64 (ax l b a).1.f2), .own 5 (.ints .u8 (ax l b a).1.f3), .own 5 (.ints .u8 (ax l b a).1.f4), .rd (.int .i64 (ax l b a).1.f5.f0), .rd (.int .i64 (ax l b a).1.f5.f1), .own 5 (.ints .u8 (ax l b a).1.f5.f2), .own 5 (.ints .u8 (ax l b a).1.f5.f3), .own 24 (.bss (ax l b a).1.f5.f4)]), (false, [.rd (.int .i64 (ax l b a).2.1)]), (false, [.rd (.int .i64 (ax l b a).2.2)])] := by
 refine RO.intro Tryz.func76 rfl 41 rfl (le_ok rfl) fun w Z => ?_
 refine T.bnd 1 0 rfl rfl fun hb_1_0 => ?_
 simp only [D.size, List.length_map] at hb_1_0
 refine T.sr [(4, (.one (.ptr 4 0))), (8, (.one (.ptr 8 0))), (9, (pI 0)), (10, (pI 0))] [(4, (46, (c_3 l))), (8, (31, c_45))] ?_
 refine T.sr [(11, (.one (.ptr 11 0)))] [(11, (31, c_45))] ?_
 refine T.seq (T.sg ?_)
 refine TL.rx 1 [(14, (.agg (c_3 l)))] [] ?_
 refine TL.c (Step.cz (ok_impl_LimitsOk l)) ?_
 refine TL.rl [(16, (pB (!(limOk l))))] [] ?_
 refine T.cn rfl (fun h1 => ?_) (fun h1 => ?_)
 ·refine T.sr [(9, (pI 0)), (10, (pI 5))] [(8, (31, c_45))] ?_
  refine T.ret ?_
  exact p_155
 refine T.skip ?_
 refine T.sr [(12, (.one (.ptr 21 0)))] [(21, (151, [cS b, cI a, cI 0]))] ?_
 refine T.sg ?_
 refine TL.rx 3 [(22, (.one (.d (.fn 77)))), (23, (.agg (c_3 l))), (24, (.one (.ptr 21 0)))] [] ?_
 have nn2 := @rdHead_sm l b (⟨a, 0⟩ : SRS) p_60
 have nn3 := @rdHead_ok l b (⟨a, 0⟩ : SRS) p_3
 refine TL.c (Step.x2 21 (ok_impl_readHead b (⟨a, 0⟩ : SRS) l p_3 p_0)) ?_
 refine TL.rl [(13, (.one (.ptr 13 0)))] [(13, (31, (c_13 a b l)))] ?_
 refine T.seq ?_
 refine T.sr [(30, (pB (decide ((af l b (⟨a, 0⟩ : SRS)).1.f1 ≠ 0))))] [] ?_
 refine T.ci rfl (fun h4 => ?_) (fun h4 => ?_)
 ·refine T.seq ?_
  refine T.drawX [{ dst := some 31, pv := (.agg c_45) }, { dst := some 32, pv := (.one (.ptr 21 0)) }, { dst := some 33, pv := (.one (.ptr 21 0)) }, { dst := some 34, pv := (.one (.ptr 21 2)) }, { dst := some 35, pv := (pI (af l b (⟨a, 0⟩ : SRS)).1.f1) }, { box := some (8, (31, c_45)) }, { dst := some 9, pv := (pI 0) }, { dst := some 10, pv := (pI (af l b (⟨a, 0⟩ : SRS)).1.f1) }] p_6 p_6 ?_ ?_
  ·refine .sk 8 ?_
   exact .nil _ _
  refine TL.wk [(8, (.one (.ptr 8 0))), (9, (pI 0)), (10, (pI (af l b (⟨a, 0⟩ : SRS)).1.f1)), (12, (.one (.ptr 21 0))), (13, (.one (.ptr 13 0)))] [(7025, (5, (.ints .u8 (af l b (⟨a, 0⟩ : SRS)).2.f3))), (8025, (5, (.ints .u8 (af l b (⟨a, 0⟩ : SRS)).2.f4))), (11025, (5, (.ints .u8 (af l b (⟨a, 0⟩ : SRS)).2.f5.f2))), (12025, (5, (.ints .u8 (af l b (⟨a, 0⟩ : SRS)).2.f5.f3))), (13025, (24, (.bss (af l b (⟨a, 0⟩ : SRS)).2.f5.f4)))] [(4, (46, (c_3 l))), (8, (31, c_45)), (11, (31, c_45)), (21, (151, [cS b, cI (af l b (⟨a, 0⟩ : SRS)).1.f0, cI (af l b (⟨a, 0⟩ : SRS)).1.f1])), (13, (31, (c_13 a b l)))] ?_
  refine TL.nil (T.ret ?_)
  exact p_155
 refine T.skip (T.seq ?_)
 refine T.drawX [{ dst := some 36, pv := (.agg (c_13 a b l)) }, { dst := some 37, pv := (.one (.ptr 21 0)) }, { dst := some 38, pv := (.one (.ptr 21 0)) }, { dst := some 39, pv := (.one (.ptr 21 1)) }, { dst := some 40, pv := (pI (af l b (⟨a, 0⟩ : SRS)).1.f0) }, { box := some (8, (31, (c_13 a b l))) }, { dst := some 9, pv := (pI (af l b (⟨a, 0⟩ : SRS)).1.f0) }, { dst := some 10, pv := (pI 0) }] p_6 p_6 ?_ ?_
 ·refine .sk 8 ?_
  exact .nil _ _
 refine TL.wk [(8, (.one (.ptr 8 0))), (9, (pI (af l b (⟨a, 0⟩ : SRS)).1.f0)), (10, (pI 0))] [(7025, (5, (.ints .u8 (af l b (⟨a, 0⟩ : SRS)).2.f3))), (8025, (5, (.ints .u8 (af l b (⟨a, 0⟩ : SRS)).2.f4))), (11025, (5, (.ints .u8 (af l b (⟨a, 0⟩ : SRS)).2.f5.f2))), (12025, (5, (.ints .u8 (af l b (⟨a, 0⟩ : SRS)).2.f5.f3))), (13025, (24, (.bss (af l b (⟨a, 0⟩ : SRS)).2.f5.f4)))] [(4, (46, (c_3 l))), (8, (31, (c_13 a b l))), (11, (31, c_45)), (21, (151, [cS b, cI (af l b (⟨a, 0⟩ : SRS)).1.f0, cI (af l b (⟨a, 0⟩ : SRS)).1.f1])), (13, (31, (c_13 a b l)))] ?_
 refine TL.nil (T.ret ?_)
 refine ⟨_, (.cons rfl (.cons rfl (.cons rfl .nil))), rfl, _, (.r ?_ (.r ?_ (.r ?_ (.o ?_ (.o ?_ (.r ?_ (.r ?_ (.o ?_ (.o ?_ (.o ?_ (.r ?_ (.r ?_ .nil))))))))))))⟩ <;> exact p_28
theorem ok_impl_GetHead (l : SLimits) (b : List Int) (a : Int) (h0_ : U8s b) (h1_ : b.length ≤ 1048576) : RO Tryz.prog 30 [.agg l.cells, .one (.ints .u8 b), .one (.int .i64 a)] [(true, [.rd (.int .i64 (ax l b a).1.f0), .rd (.int .i64 (ax l b a).1.f1), .rd (.int .i64 (ax l b a).1.f2), .own 5 (.ints .u8 (ax l b a).1.f3), .own 5 (.ints .u8 (ax l b a).1.f4), .rd (.int .i64 (ax l b a).1.f5.f0), .rd (.int .i64 (ax l b a).1.f5.f1), .own 5 (.ints .u8 (ax l b a).1.f5.f2), .own 5 (.ints .u8 (ax l b a).1.f5.f3), .own 24 (.bss (ax l b a).1.f5.f4)]), (false, [.rd (.int .i64 (ax l b a).2.1)]), (false, [.rd (.int .i64 (ax l b a).2.2)])] := by
 refine RO.intro Tryz.func30 rfl 16 rfl (le_ok rfl) fun w Z => ?_
 refine T.bnd 1 0 rfl rfl fun hb_1_0 => ?_
 simp only [D.size, List.length_map] at hb_1_0
 refine T.sr [(3, (.one (.ptr 3 0))), (6, (.one (.ptr 6 0))), (7, (pI 0)), (8, (pI 0))] [(3, (46, (c_3 l))), (6, (31, c_45))] ?_
 refine T.sg ?_
 refine TL.rx 3 [(9, (.agg (c_3 l))), (10, (pS b)), (11, (pI a))] [] ?_
 have nn1 := @getHead_sm l b a p_60
 refine TL.c (Step.cz (ok_impl_Head_ l b a p_3 p_0)) ?_
 refine TL.rl [(7, (pI (ax l b a).2.1)), (8, (pI (ax l b a).2.2))] [(6, (31, [cI (ax l b a).1.f0, cI (ax l b a).1.f1, cI (ax l b a).1.f2, .row 4012 [], .row 5012 [], cI (ax l b a).1.f5.f0, cI (ax l b a).1.f5.f1, .row 8012 [], .row 9012 [], .row 10012 []]))] ?_
 refine T.ret ?_
 refine ⟨_, (.cons rfl (.cons rfl (.cons rfl .nil))), rfl, _, (.r rfl (.r rfl (.r rfl (.o ?_ (.o ?_ (.r rfl (.r rfl (.o ?_ (.o ?_ (.o ?_ (.r rfl (.r rfl .nil))))))))))))⟩ <;> exact p_122
theorem ok_impl_GetText (b : List Int) (a : Int) (m : Int) (h0_ : U8s b) (h1_ : b.length ≤ 1099511627776) : RO Tryz.prog 139 [.one (.ints .u8 b), .one (.int .i64 a), .one (.int .i64 m)] [(false, [.own 5 (.ints .u8 (getText b a m).1)]), (false, [.rd (.int .i64 (getText b a m).2.1)]), (false, [.rd (.int .i64 (getText b a m).2.2)])] := by
 refine RO.intro Tryz.func139 rfl 31 rfl (le_ok rfl) fun w Z => ?_
 refine T.bnd 0 0 rfl rfl fun hb_0_0 => ?_
 simp only [D.size, List.length_map] at hb_0_0
 refine T.sr [(6, (.one (.nil))), (7, (pI 0)), (8, (pI 0))] [] ?_
 refine T.sg ?_
 refine TL.rx 2 [(12, (pS b)), (13, (pI a))] [] ?_
 have nn1 := @getVar_bd b p_3 a
 refine TL.c (Step.cz (ok_impl_GetVar b a p_3 p_0)) ?_
 refine TL.rl [(9, (pI (getVar b a).1)), (1, (pI (getVar b a).2.1)), (10, (pI (getVar b a).2.2))] [] ?_
 refine T.seq ?_
 refine T.sr [(19, (pB (decide ((getVar b a).2.2 ≠ 0))))] [] ?_
 refine T.ci rfl (fun h2 => ?_) (fun h2 => ?_)
 ·refine T.sr [(6, (.one (.nil))), (7, (pI 0)), (8, (pI (getVar b a).2.2))] [] ?_
  refine T.ret ?_
  exact p_145
 refine T.skip (T.seq ?_)
 refine T.sr [(23, (pB (decide (m < (getVar b a).1))))] [] ?_
 refine T.ci rfl (fun h3 => ?_) (fun h3 => ?_)
 ·refine T.sr [(6, (.one (.nil))), (7, (pI 0)), (8, (pI 3))] [] ?_
  refine T.ret ?_
  exact p_145
 refine T.skip (T.sg ?_)
 refine TL.rx 3 [(24, (pS b)), (25, (pI (getVar b a).2.1)), (26, (pI (getVar b a).1))] [] ?_
 have nn4 := getRaw_bd b (getVar b a).2.1 (getVar b a).1
 refine TL.c (Step.cz (ok_impl_GetRaw b (getVar b a).2.1 (getVar b a).1 p_0)) ?_
 refine TL.rl [(6, (.one (.row 1027 []))), (7, (pI (av b (getVar b a).2.1 (getVar b a).1).2.1)), (8, (pI (av b (getVar b a).2.1 (getVar b a).1).2.2))] [] ?_
 refine T.ret ?_
 exact p_180
theorem ok_impl_reader__text (b : List Int) (s : SRS) (m : Int) (h0_ : U8s b) (h1_ : b.length ≤ 1048576) : BX Tryz.prog 117 [.bx, .rd (.one (.int .i64 m))] 151 [.rd (.ints .u8 b), .rd (.int .i64 s.f0), .rd (.int .i64 s.f1)] [.rd (.ints .u8 b), .rd (.int .i64 (rdText b s m).1.f0), .rd (.int .i64 (rdText b s m).1.f1)] [(false, [.own 5 (.ints .u8 (rdText b s m).2)])] := by
 refine BX.intro Tryz.func117 rfl 36 rfl (le_ok rfl) (le_ok rfl) fun w Z IX pin hp => ?_
 refine T.sr [(4, (.one (.nil)))] [] ?_
 refine T.seq ?_
 refine T.sr [(12, (pB (decide (s.f1 ≠ 0))))] [] ?_
 refine T.ci rfl (fun h1 => ?_) (fun h1 => ?_)
 ·refine T.sr [(4, (.one (.nil)))] [] ?_
  refine T.ret ?_
  exact p_183
 refine T.skip (T.seq ?_)
 have nn2 := getText_bd b s.f0 m
 refine T.draw [⟨14, (.one (.ptr 800 0)), []⟩, ⟨15, (.one (.ptr 800 0)), []⟩, ⟨16, (.one (.ptr 800 0)), []⟩, ⟨17, (pS b), []⟩, ⟨18, (.one (.ptr 800 0)), []⟩, ⟨19, (.one (.ptr 800 0)), []⟩, ⟨20, (.one (.ptr 800 1)), []⟩, ⟨21, (pI s.f0), []⟩, ⟨22, (pI m), []⟩, ⟨23, (.tup [(false, [.row 1023 []]), (false, [cI (getText b s.f0 m).2.1]), (false, [cI (getText b s.f0 m).2.2])]), [(1023, (5, (.ints .u8 (getText b s.f0 m).1)))]⟩, ⟨13, (.tup [(false, [.row 1023 []]), (false, [cI (getText b s.f0 m).2.1]), (false, [cI (getText b s.f0 m).2.2])]), []⟩, ⟨24, (.one (.row 1023 [])), []⟩, ⟨25, (pI (getText b s.f0 m).2.1), []⟩, ⟨26, (pI (getText b s.f0 m).2.2), []⟩, ⟨5, (.one (.row 1023 [])), []⟩, ⟨6, (pI (getText b s.f0 m).2.1), []⟩, ⟨7, (pI (getText b s.f0 m).2.2), []⟩] p_6 p_6 ?_ ?_
 ·refine .cons (fun E A => A.mv 0 14) ?_
  refine .cons (fun E A => OpStep.plain rfl (Step.nilCheck (t := 15) rfl rfl p_21 (A.g 14 rfl))) ?_
  refine .cons (fun E A => OpStep.plain rfl (Step.fa (off := 0) (n := 1) (one := true) 0 16 (A.g 15 rfl))) ?_
  refine .cons (fun E A => OpStep.plain rfl (Step.load_box (c := cS b) (t := 17) rfl rfl p_21 p_6 (A.g 16 rfl) (by exact A.box rfl) rfl)) ?_
  refine .cons (fun E A => A.mv 0 18) ?_
  refine .cons (fun E A => OpStep.plain rfl (Step.nilCheck (t := 19) rfl rfl p_21 (A.g 18 rfl))) ?_
  refine .cons (fun E A => OpStep.plain rfl (Step.fa (off := 1) (n := 1) (one := true) 0 20 (A.g 19 rfl))) ?_
  refine .cons (fun E A => OpStep.plain rfl (Step.load_box (c := cI s.f0) (t := 21) rfl rfl p_21 p_6 (A.g 20 rfl) (by exact A.box rfl) rfl)) ?_
  refine .cons (fun E A => A.mv 1 22) ?_
  refine .cons (fun E A => OpStep.plain rfl (Step.call (f := 139) (xs := [.tmp 17, .tmp 21, .tmp 22]) (ps := [(pS b), (pI s.f0), (pI m)]) false (g := .func 139) (t := 23) rfl rfl p_21 rfl p_6 (evs_cons (A.g 17 rfl) (evs_cons (A.g 21 rfl) (evs_cons (A.g 22 rfl) (rfl)))) (.cons (.one (.d _)) (.cons (.one (.d _)) (.cons (.one (.d _)) .nil))) (ok_impl_GetText b s.f0 m p_3 p_0) (.inr rfl) (At.freshRows A rfl) (fun x hx => by have := hp x hx; omega) rfl)) ?_
  refine .cons (fun E A => A.mv 23 13) ?_
  refine .cons (fun E A => OpStep.plain rfl (Step.extract (p := (.one (.row 1023 []))) (t := 24) rfl rfl p_21 (A.g 13 rfl) rfl)) ?_
  refine .cons (fun E A => OpStep.plain rfl (Step.extract (p := (pI (getText b s.f0 m).2.1)) (t := 25) rfl rfl p_21 (A.g 13 rfl) rfl)) ?_
  refine .cons (fun E A => OpStep.plain rfl (Step.extract (p := (pI (getText b s.f0 m).2.2)) (t := 26) rfl rfl p_21 (A.g 13 rfl) rfl)) ?_
  refine .cons (fun E A => A.as 24 5) ?_
  refine .cons (fun E A => A.as 25 6) ?_
  refine .cons (fun E A => A.as 26 7) ?_
  exact .nil _ _
 refine TL.nil ?_
 refine T.sr [] [(800, (151, [cS b, cI (getText b s.f0 m).2.1, cI (getText b s.f0 m).2.2]))] ?_
 refine T.sr [(4, (.one (.row 1023 [])))] [] ?_
 refine T.ret ?_
 exact p_185
theorem ok_impl_ShaInit  : RO Tryz.prog 151 [] [(false, [.own 3 (.ints .i64 shaInit)])] := by
 refine RO.intro Tryz.func151 rfl 2 rfl (le_ok rfl) fun w Z => ?_
 refine T.sr [(0, (.one (.nil)))] [] ?_
 refine T.sg ?_
 refine TL.c (Step.lt 3 1 8 [.const (.int .i64 1779033703), .const (.int .i64 3144134277), .const (.int .i64 1013904242), .const (.int .i64 2773480762), .const (.int .i64 1359893119), .const (.int .i64 2600822924), .const (.int .i64 528734635), .const (.int .i64 1541459225)] [[cI 1779033703], [cI 3144134277], [cI 1013904242], [cI 2773480762], [cI 1359893119], [cI 2600822924], [cI 528734635], [cI 1541459225]] (.ints .i64 [1779033703, 3144134277, 1013904242, 2773480762, 1359893119, 2600822924, 528734635, 1541459225])) ?_
 refine TL.rl [(0, (.one (.row 1 [])))] [] ?_
 refine T.ret ?_
 exact p_135
theorem ok_impl_ShaPad (b : List Int) (h0_ : b.length ≤ 17592186040000) : RO Tryz.prog 152 [.one (.ints .u8 b)] [(false, [.own 5 (.ints .u8 (shaPad b))])] := by
 refine RO.intro Tryz.func152 rfl 31 rfl (le_ok rfl) fun w Z => ?_
 refine T.bnd 0 0 rfl rfl fun hb_0_0 => ?_
 simp only [D.size, List.length_map] at hb_0_0
 refine T.sr [(2, (.one (.nil)))] [] ?_
 refine T.sg ?_
 refine TL.rx 1 [(5, (pS b))] [] ?_
 refine TL.c (Step.cz (ok_impl_copyBytes b p_110)) ?_
 refine TL.c (Step.lt 5 1 1 [.const (.int .u8 128)] [[.d (.int .u8 128)]] (.ints .u8 [128])) ?_
 refine TL.c (Step.ap 5 1 1 (.ints .u8 [128]) (.ints .u8 (b ++ [128])) (.copy rfl rfl rfl p_101)) ?_
 refine TL.rl [(3, (.one (.row 1006 [])))] [] ?_
 refine T.seq (T.block ?_)
 refine T.loop (ι := Nat) (fun xx_ => { tm := [(0, (pS b)), (2, (.one (.nil))), (3, (.one (.row 1006 [])))], rows := [(1006, (5, (.ints .u8 (b ++ [128] ++ List.replicate xx_ 0)))), (7, (5, (.ints .u8 [128])))], boxes := [] }) (fun xx_ => xx_ ≤ padK b.length) (fun xx_ => padK b.length - xx_) 0 ?_ ?_ ?_
 · refine Env.le_mk ⟨rfl, rfl, rfl, trivial⟩ ⟨?_, rfl, trivial⟩ trivial <;> exact p_48
 · exact Nat.zero_le _
 intro i hx
 try dsimp only at hx ⊢
 have hl_ : (b ++ [128] ++ List.replicate i 0).length = b.length + 1 + i := by simp; omega
 have hk_ : padK b.length ≤ 63 := by unfold padK; omega
 refine T.seq (T.sg ?_)
 refine TL.rx 1 [(9, (.one (.row 1006 [])))] [] ?_
 refine TL.c (Step.ln 5 1 (.ints .u8 (b ++ [128] ++ List.replicate i 0))) ?_
 refine TL.c (Step.bin (r := .int .i64 (((b ++ [128] ++ List.replicate i 0).length : Int) % 64)) rfl rfl (lt_ok rfl) rfl rfl (Bin.rem (k := .i64) (a := ((b ++ [128] ++ List.replicate i 0).length : Int)) (b := 64) (by decide) (Int.tmod_eq_emod_of_nonneg p_17))) ?_
 refine TL.rl [(12, (pB (decide ((((b ++ [128] ++ List.replicate i 0).length : Int) % 64) ≠ 56))))] [] ?_
 refine T.ci rfl (fun h1 => ?_) (fun h1 => ?_)
 ·refine T.skip (T.block (T.region ?_))
  refine TL.rx 1 [(13, (.one (.row 1006 [])))] [] ?_
  refine TL.c (Step.lt 5 1 1 [.const (.int .u8 0)] [[.d (.int .u8 0)]] (.ints .u8 [0])) ?_
  refine TL.c (Step.ap 5 1 1 (.ints .u8 [0]) (.ints .u8 ((b ++ [128] ++ List.replicate i 0) ++ [0])) (.copy rfl rfl rfl p_101)) ?_
  refine TL.rl [(3, (.one (.row 1006 [])))] [] ?_
  refine ⟨i + 1, by (unfold padK at *; omega), by (unfold padK at *; omega), Env.le_mk ⟨rfl, rfl, rfl, trivial⟩ ⟨?_, rfl, trivial⟩ trivial⟩ <;> exact p_48
 refine T.exit (T.seq ?_)
 refine T.sr [(4, (pI 7))] [] ?_
 refine T.block ?_
 refine T.loop (ι := Nat) (fun xx_ => { tm := [(0, (pS b)), (2, (.one (.nil))), (3, (.one (.row 1006 []))), (4, (pI (7 - (xx_ : Int))))], rows := [(1006, (5, (.ints .u8 (b ++ [128] ++ List.replicate (padK b.length) 0 ++ padB b.length xx_)))), (7, (5, (.ints .u8 [128])))], boxes := [] }) (fun xx_ => xx_ ≤ 8) (fun xx_ => 8 - xx_) 0 ?_ ?_ ?_
 · refine Env.le_mk ⟨rfl, rfl, rfl, ?_, trivial⟩ ⟨?_, rfl, trivial⟩ trivial <;> exact p_46
 · exact Nat.zero_le _
 intro i hx
 try dsimp only at hx ⊢
 have hl_ : (b ++ [128] ++ List.replicate (padK b.length) 0 ++ padB b.length i).length = b.length + 1 + padK b.length + i := by simp [padB_len]; omega
 have hl3_ := padB_len b.length i
 have hk_ : padK b.length ≤ 63 := by unfold padK; omega
 refine T.seq ?_
 refine T.sr [(17, (pB (decide (0 ≤ (7 - (i : Int))))))] [] ?_
 refine T.ci rfl (fun h2 => ?_) (fun h2 => ?_)
 ·refine T.skip (T.seq (T.block (T.region ?_)))
  refine TL.rx 2 [(20, (.one (.row 1006 []))), (21, (pS b))] [] ?_
  refine TL.c (Step.ln 5 1 (.ints .u8 b)) ?_
  refine TL.ml (8 * (b.length : Int)) ?_
  refine TL.rx 1 [(24, (pI (7 - (i : Int))))] [] ?_
  refine TL.ml (8 * (7 - (i : Int))) ?_
  refine TL.c (Step.bin (r := .int .i64 (bshr (8 * (b.length : Int)) (8 * (7 - (i : Int))))) rfl rfl (lt_ok rfl) rfl rfl (Bin.shr (k := .i64) (k' := .i64) (a := (8 * (b.length : Int))) (b := (8 * (7 - (i : Int)))) p_17 (rfl))) ?_
  refine TL.c (Step.conv (c := ((bshr (8 * (b.length : Int)) (8 * (7 - (i : Int)))) % 256)) rfl rfl (lt_ok rfl) p_6 p_6 rfl (wrap_byte _)) ?_
  refine TL.c (Step.lt 5 1 1 [.tmp 27] [[.d (.int .u8 ((bshr (8 * (b.length : Int)) (8 * (7 - (i : Int)))) % 256))]] (.ints .u8 [(bshr (8 * (b.length : Int)) (8 * (7 - (i : Int)))) % 256])) ?_
  refine TL.c (Step.ap 5 1 1 (.ints .u8 [(bshr (8 * (b.length : Int)) (8 * (7 - (i : Int)))) % 256]) (.ints .u8 ((b ++ [128] ++ List.replicate (padK b.length) 0 ++ padB b.length i) ++ [(bshr (8 * (b.length : Int)) (8 * (7 - (i : Int)))) % 256])) (.copy rfl rfl rfl p_101)) ?_
  refine TL.rl [(3, (.one (.row 1006 [])))] [] ?_
  refine T.region ?_
  refine TL.rx 1 [(18, (pI (7 - (i : Int))))] [] ?_
  refine TL.sb ((7 - (i : Int)) - 1) ?_
  refine TL.rl [(4, (pI ((7 - (i : Int)) - 1)))] [] ?_
  refine ⟨i + 1, by omega, by omega, Env.le_mk ⟨rfl, rfl, rfl, ?_, trivial⟩ ⟨?_, rfl, trivial⟩ trivial⟩ <;> exact p_46
 refine T.exit ?_
 refine T.sr [(2, (.one (.row 1006 [])))] [] ?_
 refine T.ret ?_
 exact p_178
theorem ok_impl_isWord (x : Int) : RO Tryz.prog 156 [.one (.int .i64 x)] [(false, [.rd (.bool (decide (0 ≤ x ∧ x ≤ 4294967295)))])] := by
 refine RO.intro Tryz.func156 rfl 5 rfl (le_ok rfl) fun w Z => ?_
 refine T.sr [(2, (pB false))] [] ?_
 refine T.sg ?_
 refine TL.rx 1 [(3, (pI x))] [] ?_
 refine TL.c (Step.cz (ok_impl_within x 0 4294967295)) ?_
 refine TL.rl [(2, (pB (decide (0 ≤ x ∧ x ≤ 4294967295))))] [] ?_
 refine T.ret ?_
 exact ⟨_, (.cons rfl .nil), rfl, _, (.r rfl .nil)⟩
theorem ok_impl_rounds  : RO Tryz.prog 159 [] [(false, [.own 3 (.ints .i64 shaK)])] := by
 refine RO.intro Tryz.func159 rfl 2 rfl (le_ok rfl) fun w Z => ?_
 refine T.sr [(0, (.one (.nil)))] [] ?_
 refine T.sg ?_
 refine TL.c (Step.lt 3 1 8 [.const (.int .i64 1116352408), .const (.int .i64 1899447441), .const (.int .i64 3049323471), .const (.int .i64 3921009573), .const (.int .i64 961987163), .const (.int .i64 1508970993), .const (.int .i64 2453635748), .const (.int .i64 2870763221), .const (.int .i64 3624381080), .const (.int .i64 310598401), .const (.int .i64 607225278), .const (.int .i64 1426881987), .const (.int .i64 1925078388), .const (.int .i64 2162078206), .const (.int .i64 2614888103), .const (.int .i64 3248222580), .const (.int .i64 3835390401), .const (.int .i64 4022224774), .const (.int .i64 264347078), .const (.int .i64 604807628), .const (.int .i64 770255983), .const (.int .i64 1249150122), .const (.int .i64 1555081692), .const (.int .i64 1996064986), .const (.int .i64 2554220882), .const (.int .i64 2821834349), .const (.int .i64 2952996808), .const (.int .i64 3210313671), .const (.int .i64 3336571891), .const (.int .i64 3584528711), .const (.int .i64 113926993), .const (.int .i64 338241895), .const (.int .i64 666307205), .const (.int .i64 773529912), .const (.int .i64 1294757372), .const (.int .i64 1396182291), .const (.int .i64 1695183700), .const (.int .i64 1986661051), .const (.int .i64 2177026350), .const (.int .i64 2456956037), .const (.int .i64 2730485921), .const (.int .i64 2820302411), .const (.int .i64 3259730800), .const (.int .i64 3345764771), .const (.int .i64 3516065817), .const (.int .i64 3600352804), .const (.int .i64 4094571909), .const (.int .i64 275423344), .const (.int .i64 430227734), .const (.int .i64 506948616), .const (.int .i64 659060556), .const (.int .i64 883997877), .const (.int .i64 958139571), .const (.int .i64 1322822218), .const (.int .i64 1537002063), .const (.int .i64 1747873779), .const (.int .i64 1955562222), .const (.int .i64 2024104815), .const (.int .i64 2227730452), .const (.int .i64 2361852424), .const (.int .i64 2428436474), .const (.int .i64 2756734187), .const (.int .i64 3204031479), .const (.int .i64 3329325298)] [[cI 1116352408], [cI 1899447441], [cI 3049323471], [cI 3921009573], [cI 961987163], [cI 1508970993], [cI 2453635748], [cI 2870763221], [cI 3624381080], [cI 310598401], [cI 607225278], [cI 1426881987], [cI 1925078388], [cI 2162078206], [cI 2614888103], [cI 3248222580], [cI 3835390401], [cI 4022224774], [cI 264347078], [cI 604807628], [cI 770255983], [cI 1249150122], [cI 1555081692], [cI 1996064986], [cI 2554220882], [cI 2821834349], [cI 2952996808], [cI 3210313671], [cI 3336571891], [cI 3584528711], [cI 113926993], [cI 338241895], [cI 666307205], [cI 773529912], [cI 1294757372], [cI 1396182291], [cI 1695183700], [cI 1986661051], [cI 2177026350], [cI 2456956037], [cI 2730485921], [cI 2820302411], [cI 3259730800], [cI 3345764771], [cI 3516065817], [cI 3600352804], [cI 4094571909], [cI 275423344], [cI 430227734], [cI 506948616], [cI 659060556], [cI 883997877], [cI 958139571], [cI 1322822218], [cI 1537002063], [cI 1747873779], [cI 1955562222], [cI 2024104815], [cI 2227730452], [cI 2361852424], [cI 2428436474], [cI 2756734187], [cI 3204031479], [cI 3329325298]] (.ints .i64 [1116352408, 1899447441, 3049323471, 3921009573, 961987163, 1508970993, 2453635748, 2870763221, 3624381080, 310598401, 607225278, 1426881987, 1925078388, 2162078206, 2614888103, 3248222580, 3835390401, 4022224774, 264347078, 604807628, 770255983, 1249150122, 1555081692, 1996064986, 2554220882, 2821834349, 2952996808, 3210313671, 3336571891, 3584528711, 113926993, 338241895, 666307205, 773529912, 1294757372, 1396182291, 1695183700, 1986661051, 2177026350, 2456956037, 2730485921, 2820302411, 3259730800, 3345764771, 3516065817, 3600352804, 4094571909, 275423344, 430227734, 506948616, 659060556, 883997877, 958139571, 1322822218, 1537002063, 1747873779, 1955562222, 2024104815, 2227730452, 2361852424, 2428436474, 2756734187, 3204031479, 3329325298])) ?_
 refine TL.rl [(0, (.one (.row 1 [])))] [] ?_
 refine T.ret ?_
 exact p_135
theorem ok_impl_TurnRight (x : Int) (n : Int) (h0_ : 0 ≤ x ∧ x ≤ 4294967295) (h1_ : 0 ≤ n ∧ n ≤ 31) : RO Tryz.prog 160 [.one (.int .i64 x), .one (.int .i64 n)] [(false, [.rd (.int .i64 (turnW x n))])] := by
 refine RO.intro Tryz.func160 rfl 22 rfl (le_ok rfl) fun w Z => ?_
 refine T.sr [(4, (pI 0))] [] ?_
 refine T.seq (T.sg ?_)
 refine TL.rx 1 [(5, (pI x))] [] ?_
 refine TL.c (Step.cz (ok_impl_isWord x)) ?_
 refine TL.rx 2 [(8, (pB (!(decide (0 ≤ x ∧ x ≤ 4294967295)))))] [] ?_
 rcases Bool.eq_false_or_eq_true (!(decide (0 ≤ x ∧ x ≤ 4294967295))) with hb1 | hb1
 ·refine TL.known 8 hb1 rfl ?_
  have hb1' := hb1
  replace hb1' : (decide (0 ≤ x ∧ x ≤ 4294967295)) = false := by simpa only [Bool.not_eq_true', Bool.not_eq_false'] using hb1'
  replace hb1' := of_decide_eq_false hb1'
  refine TL.rl [(12, (pB true))] [] ?_
  refine T.ct ?_
  refine T.sr [(4, (pI 0))] [] ?_
  refine T.ret ?_
  exact p_167
 refine TL.known 8 hb1 rfl ?_
 have hb1' := hb1
 replace hb1' : (decide (0 ≤ x ∧ x ≤ 4294967295)) = true := by simpa only [Bool.not_eq_true', Bool.not_eq_false'] using hb1'
 replace hb1' := of_decide_eq_true hb1'
 refine TL.rx 1 [(9, (pI n))] [] ?_
 refine TL.gy 8 (Step.cz (ok_impl_within n 0 31)) ?_
 refine TL.rl [(12, (pB (!(decide (0 ≤ n ∧ n ≤ 31)))))] [] ?_
 refine T.cni rfl (fun h2 => ?_) (fun h2 => ?_)
 ·refine T.sr [(4, (pI 0))] [] ?_
  refine T.ret ?_
  exact p_167
 refine T.skip (T.seq ?_)
 refine T.draw [⟨13, (pI x), []⟩, ⟨14, (pI n), []⟩, ⟨15, (pI (bshr x n)), []⟩, ⟨16, (pI x), []⟩, ⟨17, (pI n), []⟩, ⟨18, (pI (32 - n)), []⟩, ⟨19, (pI (bshl x (32 - n))), []⟩, ⟨20, (pI (bor (bshr x n) (bshl x (32 - n)))), []⟩, ⟨21, (pI (band (bor (bshr x n) (bshl x (32 - n))) 4294967295)), []⟩, ⟨4, (pI (band (bor (bshr x n) (bshl x (32 - n))) 4294967295)), []⟩] p_6 p_6 ?_ ?_
 ·refine .cons (fun E A => A.mv 0 13) ?_
  refine .cons (fun E A => A.mv 1 14) ?_
  refine .cons (fun E A => OpStep.plain rfl (Step.bd (r := .int .i64 (bshr x n)) 15 (A.g 13 rfl) (A.g 14 rfl) (Bin.shr (k := .i64) (k' := .i64) (a := x) (b := n) p_17 (rfl)))) ?_
  refine .cons (fun E A => A.mv 0 16) ?_
  refine .cons (fun E A => A.mv 1 17) ?_
  refine .cons (fun E A => OpStep.plain rfl (Step.bd (r := .int .i64 (32 - n)) 18 rfl (A.g 17 rfl) (Bin.sub (a := 32) (b := n) p_99))) ?_
  refine .cons (fun E A => OpStep.plain rfl (Step.bd (r := .int .i64 (bshl x (32 - n))) 19 (A.g 16 rfl) (A.g 18 rfl) (Bin.shl (k := .i64) (k' := .i64) (a := x) (b := (32 - n)) p_17 (rfl)))) ?_
  refine .cons (fun E A => OpStep.plain rfl (Step.bd (r := .int .i64 (bor (bshr x n) (bshl x (32 - n)))) 20 (A.g 15 rfl) (A.g 19 rfl) (Bin.or (k := .i64) (a := (bshr x n)) (b := (bshl x (32 - n))) (rfl)))) ?_
  refine .cons (fun E A => OpStep.plain rfl (Step.bd (r := .int .i64 (band (bor (bshr x n) (bshl x (32 - n))) 4294967295)) 21 (A.g 20 rfl) rfl (Bin.and (k := .i64) (a := (bor (bshr x n) (bshl x (32 - n)))) (b := 4294967295) (rfl)))) ?_
  refine .cons (fun E A => A.as 21 4) ?_
  exact .nil _ _
 refine TL.nil (T.ret ?_)
 exact p_167
end Go.Proofs.YtjohlfccejljlaaGreat.Rf
