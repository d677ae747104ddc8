/- The functions that FnExactBlockPath calls, each held to what it answers. Printed by a program of this session; Lean checks it. -/
import Derived.Test.YtmdojlglemnijaaProg
import Derived.Test.YtmdojlglemnijaaRFnExactBlockPathx0
namespace Go.Proofs.Ytmdojlglemnijaa.Rf
open Go.RowKit
set_option linter.unusedVariables false
set_option linter.unnecessarySimpa false
set_option linter.unusedSimpArgs false
set_option maxRecDepth 100000
set_option maxHeartbeats 4000000
theorem ok_spec_ShaBlock (h : List Int) (b : List Int) (h0_ : U8s b) : RO Try.prog 109 [.one (.ints .i64 h), .one (.ints .u8 b)] [(false, [.own 3 (.ints .i64 (shaBlock h b))])] := by
 refine RO.intro Try.func109 rfl 254 rfl (le_ok rfl) fun w Z => ?_
 refine T.bnd 0 0 rfl rfl fun hb_0_0 => ?_
 simp only [D.size, List.length_map] at hb_0_0
 refine T.bnd 1 0 rfl rfl fun hb_1_0 => ?_
 simp only [D.size, List.length_map] at hb_1_0
 refine T.seq ?_
 refine T.region ?_
 refine TL.as (.one (.nil)) ?_
 refine TL.nil ?_
 refine T.seq ?_
 refine T.seq ?_
 refine T.region ?_
 refine TL.mv (.one (.d (.ints .i64 h))) ?_
 refine TL.c (Step.len (e := 3) (z := 1) (d := (.ints .i64 h)) rfl rfl (lt_ok rfl) (by kernel_rfl) rfl rfl) ?_
 refine TL.c (Step.bin rfl rfl (lt_ok rfl) rfl rfl (Bin.neq (k := .i64) (a := (h.length : Int)) (b := 8))) ?_
 refine TL.mv (pB (decide ((h.length : Int) ≠ 8))) ?_
 rcases Bool.eq_false_or_eq_true (decide ((h.length : Int) ≠ 8)) with hb1 | hb1
 ·
  refine TL.known 26 hb1 rfl ?_
  have hb1' := hb1
  replace hb1' := of_decide_eq_true hb1'
  refine TL.gf 26 ?_
  refine TL.gf 26 ?_
  refine TL.gf 26 ?_
  refine TL.pk true (pB true) ?_
  refine TL.nil ?_
  refine T.cond (b := true) rfl (fun h2_ => ?_) (fun h2_ => absurd h2_ (by simp))
  refine T.seq ?_
  refine T.region ?_
  refine TL.as (.one (.nil)) ?_
  refine TL.nil ?_
  refine T.ret ?_
  refine ⟨[(false, [.nil])], (.cons rfl .nil), rfl, [], (RetC.nilown' rfl ?_ (by first | exact trivial | exact D.wf_nil _) .nil)⟩ <;> (first | (rw [shaBlock_yes (h := h) (b := b) ⟨by omega, by omega, hwo_⟩, show i = 8 from by omega]; done) | (simp only [D.size]; first | (rw [shaBlock_no (fun h_ => by have := h_.1; have := h_.2.1; omega)]; rfl) | (rw [shaBlock_no (fun h_ => by have := h_.2.2; rw [words_no (i := i) (by omega) (by omega)] at this; cases this)]; rfl)))
 ·
  refine TL.known 26 hb1 rfl ?_
  have hb1' := hb1
  replace hb1' := of_decide_eq_false hb1'
  refine TL.gm 26 (pS b) ?_
  refine TL.gy 26 (Step.len (e := 5) (z := 1) (d := (.ints .u8 b)) rfl rfl (lt_ok rfl) (by kernel_rfl) rfl rfl) ?_
  refine TL.gy 26 (Step.bin rfl rfl (lt_ok rfl) rfl rfl (Bin.neq (k := .i64) (a := (b.length : Int)) (b := 64))) ?_
  refine TL.pk false (pB (decide ((b.length : Int) ≠ 64))) ?_
  refine TL.nil ?_
  refine T.cond (b := decide ((b.length : Int) ≠ 64)) rfl (fun h3 => ?_) (fun h3 => ?_)
  ·
   replace h3 := of_decide_eq_true h3
   refine T.seq ?_
   refine T.region ?_
   refine TL.as (.one (.nil)) ?_
   refine TL.nil ?_
   refine T.ret ?_
   refine ⟨[(false, [.nil])], (.cons rfl .nil), rfl, [], (RetC.nilown' rfl ?_ (by first | exact trivial | exact D.wf_nil _) .nil)⟩ <;> (first | (rw [shaBlock_yes (h := h) (b := b) ⟨by omega, by omega, hwo_⟩, show i = 8 from by omega]; done) | (simp only [D.size]; first | (rw [shaBlock_no (fun h_ => by have := h_.1; have := h_.2.1; omega)]; rfl) | (rw [shaBlock_no (fun h_ => by have := h_.2.2; rw [words_no (i := i) (by omega) (by omega)] at this; cases this)]; rfl)))
  ·
   replace h3 := of_decide_eq_false h3
   refine T.skip ?_
   refine T.seq ?_
   refine T.seq ?_
   refine T.region ?_
   refine TL.mv (.one (.d (.ints .i64 h))) ?_
   refine TL.c (Step.len (e := 3) (z := 1) (d := (.ints .i64 h)) rfl rfl (lt_ok rfl) (by kernel_rfl) rfl rfl) ?_
   refine TL.mv (pI 0) ?_
   refine TL.nil ?_
   refine T.block ?_
   refine T.loop (ι := Nat) (fun xx_ => { tm := [(0, (.one (.d (.ints .i64 h)))), (1, (pS b)), (31, (.one (.d (.ints .i64 h)))), (32, (pI (h.length : Int))), (33, (pI (xx_ : Int)))], rows := [], boxes := [] }) (fun xx_ => xx_ ≤ h.length ∧ wordsOk (h.take xx_) = true) (fun xx_ => h.length - xx_) 0 ?_ ?_ ?_
   · refine Env.le_mk ⟨rfl, rfl, rfl, rfl, ?_, trivial⟩ trivial trivial <;> (first | rfl | (simp; done) | (congr 3; omega))
   · (refine ⟨Nat.zero_le _, by rw [List.take_zero]; rfl⟩)
   ·
    intro i hx
    try dsimp only at hx ⊢
    obtain ⟨hx1, hx2⟩ := hx
    refine T.seq ?_
    refine T.region ?_
    refine TL.c (Step.bin rfl rfl (lt_ok rfl) rfl rfl (Bin.lss (k := .i64) (a := (i : Int)) (b := (h.length : Int)))) ?_
    refine TL.nil ?_
    refine T.seq ?_
    refine T.cond (b := decide ((i : Int) < (h.length : Int))) rfl (fun h4 => ?_) (fun h4 => ?_)
    ·
     replace h4 := of_decide_eq_true h4
     refine T.skip ?_
     refine T.seq ?_
     refine T.block ?_
     refine T.seq ?_
     refine T.region ?_
     refine TL.c (Step.index (e := 3) (z := 1) (i := (i : Int)) rfl rfl (lt_ok rfl) (by kernel_rfl) rfl rfl rfl (lt_ok rfl) rfl (by first | omega | (simp; omega) | (simp [w16_len, wN_len]; omega)) (by simp only [D.size]; first | omega | (simp; omega) | (simp [w16_len, wN_len]; omega))) ?_
     refine TL.c (Step.load (e := (.int .i64 (h.getD i 0))) rfl rfl (lt_ok rfl) (by kernel_rfl) rfl rfl) ?_
     refine TL.as (pI (h.getD i 0)) ?_
     refine TL.nil ?_
     refine T.seq ?_
     refine T.region ?_
     refine TL.mv (pI (h.getD i 0)) ?_
     refine TL.c (Step.cl (xs := [.tmp 37]) (ps := [(pI (h.getD i 0))]) (g := .func 117) false (.cons (.one (.d _)) .nil) (ok_spec_l04Word (h.getD i 0))) ?_
     refine TL.c (Step.not (b := (decide (0 ≤ (h.getD i 0) ∧ (h.getD i 0) ≤ 4294967295))) rfl rfl (lt_ok rfl) rfl) ?_
     refine TL.nil ?_
     refine T.cond (b := !(decide (0 ≤ (h.getD i 0) ∧ (h.getD i 0) ≤ 4294967295))) rfl (fun h5 => ?_) (fun h5 => ?_)
     ·
      replace h5 : (decide (0 ≤ (h.getD i 0) ∧ (h.getD i 0) ≤ 4294967295)) = false := by simpa only [Bool.not_eq_true', Bool.not_eq_false'] using h5
      replace h5 := of_decide_eq_false h5
      refine T.seq ?_
      refine T.region ?_
      refine TL.as (.one (.nil)) ?_
      refine TL.nil ?_
      refine T.ret ?_
      refine ⟨[(false, [.nil])], (.cons rfl .nil), rfl, [], (RetC.nilown' rfl ?_ (by first | exact trivial | exact D.wf_nil _) .nil)⟩ <;> (first | (rw [shaBlock_yes (h := h) (b := b) ⟨by omega, by omega, hwo_⟩, show i = 8 from by omega]; done) | (simp only [D.size]; first | (rw [shaBlock_no (fun h_ => by have := h_.1; have := h_.2.1; omega)]; rfl) | (rw [shaBlock_no (fun h_ => by have := h_.2.2; rw [words_no (i := i) (by omega) (by omega)] at this; cases this)]; rfl)))
     ·
      replace h5 : (decide (0 ≤ (h.getD i 0) ∧ (h.getD i 0) ≤ 4294967295)) = true := by simpa only [Bool.not_eq_true', Bool.not_eq_false'] using h5
      replace h5 := of_decide_eq_true h5
      refine T.skip ?_
      refine T.region ?_
      refine TL.c (Step.bin (r := .int .i64 ((i : Int) + 1)) rfl rfl (lt_ok rfl) rfl rfl (Bin.add (a := (i : Int)) (b := 1) (by first | exact wrap_ok (by first | omega | (simp; omega) | (simp [w16_len, wN_len]; omega)) (by first | omega | (simp; omega) | (simp [w16_len, wN_len]; omega)) | rfl))) ?_
      refine TL.mv (pI ((i : Int) + 1)) ?_
      refine TL.nil ?_
      refine ⟨i + 1, by (refine ⟨by omega, words_step (by omega) hx2 (by omega)⟩), by first | omega | (dsimp only; omega), Env.le_mk ⟨rfl, rfl, rfl, rfl, ?_, trivial⟩ trivial trivial⟩ <;> (first | rfl | (simp; done) | (congr 3; omega))
    ·
     replace h4 := of_decide_eq_false h4
     refine T.exit ?_
     refine T.seq ?_
     refine T.region ?_
     refine TL.c (Step.lit (e := 3) (z := 1) (by_ := 8) (xs := []) (pss := []) (es := []) (ss := []) (d := (.ints .i64 [])) rfl rfl (lt_ok rfl) (by kernel_rfl) rfl rfl .nil (by simp) (le_ok rfl) (le_ok rfl) rfl .nil rfl (by simp) (by simp) rfl trivial rfl rfl) ?_
     refine TL.as (.one (.row 41 [])) ?_
     refine TL.nil ?_
     refine T.seq ?_
     refine T.seq ?_
     refine T.region ?_
     refine TL.as (pI 0) ?_
     refine TL.nil ?_
     refine T.block ?_
     refine T.loop (ι := Nat) (fun xx_ => { tm := [(0, (.one (.d (.ints .i64 h)))), (1, (pS b)), (8, (pI (4 * (xx_ : Int)))), (7, (.one (.row 41 [])))], rows := [(41, (3, (.ints .i64 (w16 b xx_))))], boxes := [] }) (fun xx_ => xx_ ≤ 16) (fun xx_ => 16 - xx_) 0 ?_ ?_ ?_
     · refine Env.le_mk ⟨rfl, rfl, ?_, rfl, trivial⟩ ⟨?_, trivial⟩ trivial <;> (first | rfl | (refine congrArg (fun x => some (_, D.ints .i64 x)) ?_; first | rfl | fail) | (refine congrArg (fun n => PV.one (.d (.int .i64 n))) ?_; first | rfl | omega | (simp; done)))
     · exact Nat.zero_le _
     ·
      intro i hx
      try dsimp only at hx ⊢
      have hwo_ : wordsOk h = true := by rw [List.take_of_length_le (by omega)] at hx2; exact hx2
      have hl_ := w16_len b i
      have hu0_ := getD_u8 h0_ (4 * (i : Int)).toNat
      have hu1_ := getD_u8 h0_ (4 * (i : Int) + 1).toNat
      have hu2_ := getD_u8 h0_ (4 * (i : Int) + 2).toNat
      have hu3_ := getD_u8 h0_ (4 * (i : Int) + 3).toNat
      refine T.seq ?_
      refine T.seq ?_
      refine T.region ?_
      refine TL.mv (pI (4 * (i : Int))) ?_
      refine TL.c (Step.bin rfl rfl (lt_ok rfl) rfl rfl (Bin.lss (k := .i64) (a := (4 * (i : Int))) (b := 64))) ?_
      refine TL.nil ?_
      refine T.cond (b := decide ((4 * (i : Int)) < 64)) rfl (fun h6 => ?_) (fun h6 => ?_)
      ·
       replace h6 := of_decide_eq_true h6
       refine T.skip ?_
       refine T.seq ?_
       refine T.block ?_
       refine T.draw [⟨46, (.one (.row 41 [])), []⟩, ⟨47, (pS b), []⟩, ⟨48, (pI (4 * (i : Int))), []⟩, ⟨49, (.one (.eptr (.ints .u8 b) (4 * (i : Int)).toNat 0)), []⟩, ⟨50, (.one (.d (.int .u8 (b.getD (4 * (i : Int)).toNat 0)))), []⟩, ⟨51, (pI (b.getD (4 * (i : Int)).toNat 0)), []⟩, ⟨52, (pI (bshl (b.getD (4 * (i : Int)).toNat 0) 24)), []⟩, ⟨53, (pS b), []⟩, ⟨54, (pI (4 * (i : Int))), []⟩, ⟨55, (pI ((4 * (i : Int)) + 1)), []⟩, ⟨56, (.one (.eptr (.ints .u8 b) ((4 * (i : Int)) + 1).toNat 0)), []⟩, ⟨57, (.one (.d (.int .u8 (b.getD ((4 * (i : Int)) + 1).toNat 0)))), []⟩, ⟨58, (pI (b.getD ((4 * (i : Int)) + 1).toNat 0)), []⟩, ⟨59, (pI (bshl (b.getD ((4 * (i : Int)) + 1).toNat 0) 16)), []⟩, ⟨60, (pI (bor (bshl (b.getD (4 * (i : Int)).toNat 0) 24) (bshl (b.getD ((4 * (i : Int)) + 1).toNat 0) 16))), []⟩, ⟨61, (pS b), []⟩, ⟨62, (pI (4 * (i : Int))), []⟩, ⟨63, (pI ((4 * (i : Int)) + 2)), []⟩, ⟨64, (.one (.eptr (.ints .u8 b) ((4 * (i : Int)) + 2).toNat 0)), []⟩, ⟨65, (.one (.d (.int .u8 (b.getD ((4 * (i : Int)) + 2).toNat 0)))), []⟩, ⟨66, (pI (b.getD ((4 * (i : Int)) + 2).toNat 0)), []⟩, ⟨67, (pI (bshl (b.getD ((4 * (i : Int)) + 2).toNat 0) 8)), []⟩, ⟨68, (pI (bor (bor (bshl (b.getD (4 * (i : Int)).toNat 0) 24) (bshl (b.getD ((4 * (i : Int)) + 1).toNat 0) 16)) (bshl (b.getD ((4 * (i : Int)) + 2).toNat 0) 8))), []⟩, ⟨69, (pS b), []⟩, ⟨70, (pI (4 * (i : Int))), []⟩, ⟨71, (pI ((4 * (i : Int)) + 3)), []⟩, ⟨72, (.one (.eptr (.ints .u8 b) ((4 * (i : Int)) + 3).toNat 0)), []⟩, ⟨73, (.one (.d (.int .u8 (b.getD ((4 * (i : Int)) + 3).toNat 0)))), []⟩, ⟨74, (pI (b.getD ((4 * (i : Int)) + 3).toNat 0)), []⟩, ⟨75, (pI (bor (bor (bor (bshl (b.getD (4 * (i : Int)).toNat 0) 24) (bshl (b.getD ((4 * (i : Int)) + 1).toNat 0) 16)) (bshl (b.getD ((4 * (i : Int)) + 2).toNat 0) 8)) (b.getD ((4 * (i : Int)) + 3).toNat 0))), []⟩, ⟨76, (.one (.d (.ints .i64 [bor (bor (bor (bshl (b.getD (4 * (i : Int)).toNat 0) 24) (bshl (b.getD ((4 * (i : Int)) + 1).toNat 0) 16)) (bshl (b.getD ((4 * (i : Int)) + 2).toNat 0) 8)) (b.getD ((4 * (i : Int)) + 3).toNat 0)]))), []⟩] (by kernel_rfl) (by kernel_rfl) ?_ ?_
       ·
        refine .cons (fun E A => A.mv 7 46) ?_
        refine .cons (fun E A => A.mv 1 47) ?_
        refine .cons (fun E A => A.mv 8 48) ?_
        refine .cons (fun E A => OpStep.plain rfl (Step.index (e := 5) (z := 1) (i := (4 * (i : Int))) (t := 49) rfl rfl (by exact lt_ok rfl) (by kernel_rfl) (A.g 47 rfl) rfl rfl (lt_ok rfl) (A.g 48 rfl) (by first | omega | (simp; omega) | (simp [w16_len, wN_len]; omega)) (by simp only [D.size]; first | omega | (simp; omega) | (simp [w16_len, wN_len]; omega)))) ?_
        refine .cons (fun E A => OpStep.plain rfl (Step.load (e := (.int .u8 (b.getD (4 * (i : Int)).toNat 0))) (t := 50) rfl rfl (by exact lt_ok rfl) (by kernel_rfl) (A.g 49 rfl) rfl)) ?_
        refine .cons (fun E A => OpStep.plain rfl (Step.conv (c := (b.getD (4 * (i : Int)).toNat 0)) (t := 51) rfl rfl (by exact lt_ok rfl) (by kernel_rfl) (by kernel_rfl) (A.g 50 rfl) (wrap_ok (by first | omega | (simp; omega) | (simp [w16_len, wN_len]; omega)) (by first | omega | (simp; omega) | (simp [w16_len, wN_len]; omega))))) ?_
        refine .cons (fun E A => OpStep.plain rfl (Step.bd (r := .int .i64 (bshl (b.getD (4 * (i : Int)).toNat 0) 24)) 52 (A.g 51 rfl) rfl (Bin.shl (k := .i64) (k' := .u64) (a := (b.getD (4 * (i : Int)).toNat 0)) (b := 24) (by first | omega | (simp; omega) | (simp [w16_len, wN_len]; omega)) (rfl)))) ?_
        refine .cons (fun E A => A.mv 1 53) ?_
        refine .cons (fun E A => A.mv 8 54) ?_
        refine .cons (fun E A => OpStep.plain rfl (Step.bd (r := .int .i64 ((4 * (i : Int)) + 1)) 55 (A.g 54 rfl) rfl (Bin.add (a := (4 * (i : Int))) (b := 1) (by first | exact wrap_ok (by first | omega | (simp; omega) | (simp [w16_len, wN_len]; omega)) (by first | omega | (simp; omega) | (simp [w16_len, wN_len]; omega)) | rfl)))) ?_
        refine .cons (fun E A => OpStep.plain rfl (Step.index (e := 5) (z := 1) (i := ((4 * (i : Int)) + 1)) (t := 56) rfl rfl (by exact lt_ok rfl) (by kernel_rfl) (A.g 53 rfl) rfl rfl (lt_ok rfl) (A.g 55 rfl) (by first | omega | (simp; omega) | (simp [w16_len, wN_len]; omega)) (by simp only [D.size]; first | omega | (simp; omega) | (simp [w16_len, wN_len]; omega)))) ?_
        refine .cons (fun E A => OpStep.plain rfl (Step.load (e := (.int .u8 (b.getD ((4 * (i : Int)) + 1).toNat 0))) (t := 57) rfl rfl (by exact lt_ok rfl) (by kernel_rfl) (A.g 56 rfl) rfl)) ?_
        refine .cons (fun E A => OpStep.plain rfl (Step.conv (c := (b.getD ((4 * (i : Int)) + 1).toNat 0)) (t := 58) rfl rfl (by exact lt_ok rfl) (by kernel_rfl) (by kernel_rfl) (A.g 57 rfl) (wrap_ok (by first | omega | (simp; omega) | (simp [w16_len, wN_len]; omega)) (by first | omega | (simp; omega) | (simp [w16_len, wN_len]; omega))))) ?_
        refine .cons (fun E A => OpStep.plain rfl (Step.bd (r := .int .i64 (bshl (b.getD ((4 * (i : Int)) + 1).toNat 0) 16)) 59 (A.g 58 rfl) rfl (Bin.shl (k := .i64) (k' := .u64) (a := (b.getD ((4 * (i : Int)) + 1).toNat 0)) (b := 16) (by first | omega | (simp; omega) | (simp [w16_len, wN_len]; omega)) (rfl)))) ?_
        refine .cons (fun E A => OpStep.plain rfl (Step.bd (r := .int .i64 (bor (bshl (b.getD (4 * (i : Int)).toNat 0) 24) (bshl (b.getD ((4 * (i : Int)) + 1).toNat 0) 16))) 60 (A.g 52 rfl) (A.g 59 rfl) (Bin.or (k := .i64) (a := (bshl (b.getD (4 * (i : Int)).toNat 0) 24)) (b := (bshl (b.getD ((4 * (i : Int)) + 1).toNat 0) 16)) (rfl)))) ?_
        refine .cons (fun E A => A.mv 1 61) ?_
        refine .cons (fun E A => A.mv 8 62) ?_
        refine .cons (fun E A => OpStep.plain rfl (Step.bd (r := .int .i64 ((4 * (i : Int)) + 2)) 63 (A.g 62 rfl) rfl (Bin.add (a := (4 * (i : Int))) (b := 2) (by first | exact wrap_ok (by first | omega | (simp; omega) | (simp [w16_len, wN_len]; omega)) (by first | omega | (simp; omega) | (simp [w16_len, wN_len]; omega)) | rfl)))) ?_
        refine .cons (fun E A => OpStep.plain rfl (Step.index (e := 5) (z := 1) (i := ((4 * (i : Int)) + 2)) (t := 64) rfl rfl (by exact lt_ok rfl) (by kernel_rfl) (A.g 61 rfl) rfl rfl (lt_ok rfl) (A.g 63 rfl) (by first | omega | (simp; omega) | (simp [w16_len, wN_len]; omega)) (by simp only [D.size]; first | omega | (simp; omega) | (simp [w16_len, wN_len]; omega)))) ?_
        refine .cons (fun E A => OpStep.plain rfl (Step.load (e := (.int .u8 (b.getD ((4 * (i : Int)) + 2).toNat 0))) (t := 65) rfl rfl (by exact lt_ok rfl) (by kernel_rfl) (A.g 64 rfl) rfl)) ?_
        refine .cons (fun E A => OpStep.plain rfl (Step.conv (c := (b.getD ((4 * (i : Int)) + 2).toNat 0)) (t := 66) rfl rfl (by exact lt_ok rfl) (by kernel_rfl) (by kernel_rfl) (A.g 65 rfl) (wrap_ok (by first | omega | (simp; omega) | (simp [w16_len, wN_len]; omega)) (by first | omega | (simp; omega) | (simp [w16_len, wN_len]; omega))))) ?_
        refine .cons (fun E A => OpStep.plain rfl (Step.bd (r := .int .i64 (bshl (b.getD ((4 * (i : Int)) + 2).toNat 0) 8)) 67 (A.g 66 rfl) rfl (Bin.shl (k := .i64) (k' := .u64) (a := (b.getD ((4 * (i : Int)) + 2).toNat 0)) (b := 8) (by first | omega | (simp; omega) | (simp [w16_len, wN_len]; omega)) (rfl)))) ?_
        refine .cons (fun E A => OpStep.plain rfl (Step.bd (r := .int .i64 (bor (bor (bshl (b.getD (4 * (i : Int)).toNat 0) 24) (bshl (b.getD ((4 * (i : Int)) + 1).toNat 0) 16)) (bshl (b.getD ((4 * (i : Int)) + 2).toNat 0) 8))) 68 (A.g 60 rfl) (A.g 67 rfl) (Bin.or (k := .i64) (a := (bor (bshl (b.getD (4 * (i : Int)).toNat 0) 24) (bshl (b.getD ((4 * (i : Int)) + 1).toNat 0) 16))) (b := (bshl (b.getD ((4 * (i : Int)) + 2).toNat 0) 8)) (rfl)))) ?_
        refine .cons (fun E A => A.mv 1 69) ?_
        refine .cons (fun E A => A.mv 8 70) ?_
        refine .cons (fun E A => OpStep.plain rfl (Step.bd (r := .int .i64 ((4 * (i : Int)) + 3)) 71 (A.g 70 rfl) rfl (Bin.add (a := (4 * (i : Int))) (b := 3) (by first | exact wrap_ok (by first | omega | (simp; omega) | (simp [w16_len, wN_len]; omega)) (by first | omega | (simp; omega) | (simp [w16_len, wN_len]; omega)) | rfl)))) ?_
        refine .cons (fun E A => OpStep.plain rfl (Step.index (e := 5) (z := 1) (i := ((4 * (i : Int)) + 3)) (t := 72) rfl rfl (by exact lt_ok rfl) (by kernel_rfl) (A.g 69 rfl) rfl rfl (lt_ok rfl) (A.g 71 rfl) (by first | omega | (simp; omega) | (simp [w16_len, wN_len]; omega)) (by simp only [D.size]; first | omega | (simp; omega) | (simp [w16_len, wN_len]; omega)))) ?_
        refine .cons (fun E A => OpStep.plain rfl (Step.load (e := (.int .u8 (b.getD ((4 * (i : Int)) + 3).toNat 0))) (t := 73) rfl rfl (by exact lt_ok rfl) (by kernel_rfl) (A.g 72 rfl) rfl)) ?_
        refine .cons (fun E A => OpStep.plain rfl (Step.conv (c := (b.getD ((4 * (i : Int)) + 3).toNat 0)) (t := 74) rfl rfl (by exact lt_ok rfl) (by kernel_rfl) (by kernel_rfl) (A.g 73 rfl) (wrap_ok (by first | omega | (simp; omega) | (simp [w16_len, wN_len]; omega)) (by first | omega | (simp; omega) | (simp [w16_len, wN_len]; omega))))) ?_
        refine .cons (fun E A => OpStep.plain rfl (Step.bd (r := .int .i64 (bor (bor (bor (bshl (b.getD (4 * (i : Int)).toNat 0) 24) (bshl (b.getD ((4 * (i : Int)) + 1).toNat 0) 16)) (bshl (b.getD ((4 * (i : Int)) + 2).toNat 0) 8)) (b.getD ((4 * (i : Int)) + 3).toNat 0))) 75 (A.g 68 rfl) (A.g 74 rfl) (Bin.or (k := .i64) (a := (bor (bor (bshl (b.getD (4 * (i : Int)).toNat 0) 24) (bshl (b.getD ((4 * (i : Int)) + 1).toNat 0) 16)) (bshl (b.getD ((4 * (i : Int)) + 2).toNat 0) 8))) (b := (b.getD ((4 * (i : Int)) + 3).toNat 0)) (rfl)))) ?_
        refine .cons (fun E A => OpStep.plain rfl (Step.lit_d (e := 3) (z := 1) (by_ := 8) (xs := [.tmp 75]) (pss := [[cI (bor (bor (bor (bshl (b.getD (4 * (i : Int)).toNat 0) 24) (bshl (b.getD ((4 * (i : Int)) + 1).toNat 0) 16)) (bshl (b.getD ((4 * (i : Int)) + 2).toNat 0) 8)) (b.getD ((4 * (i : Int)) + 3).toNat 0))]]) (ds := [(.int .i64 (bor (bor (bor (bshl (b.getD (4 * (i : Int)).toNat 0) 24) (bshl (b.getD ((4 * (i : Int)) + 1).toNat 0) 16)) (bshl (b.getD ((4 * (i : Int)) + 2).toNat 0) 8)) (b.getD ((4 * (i : Int)) + 3).toNat 0)))]) (d := (.ints .i64 [bor (bor (bor (bshl (b.getD (4 * (i : Int)).toNat 0) 24) (bshl (b.getD ((4 * (i : Int)) + 1).toNat 0) 16)) (bshl (b.getD ((4 * (i : Int)) + 2).toNat 0) 8)) (b.getD ((4 * (i : Int)) + 3).toNat 0)])) (t := 76) rfl rfl (by exact lt_ok rfl) (by kernel_rfl) rfl rfl (.cons (by exact (congrArg PV.flat (A.g 75 rfl)).trans rfl) .nil) (by simp) (le_ok rfl) (le_ok rfl) rfl rfl trivial rfl rfl)) ?_
        exact .nil _ _
       refine TL.c (Step.append (e := 3) (z := 1) (by_ := 8) (d := (.ints .i64 (w16 b i))) (dy := (.ints .i64 [bor (bor (bor (bshl (b.getD (4 * (i : Int)).toNat 0) 24) (bshl (b.getD ((4 * (i : Int)) + 1).toNat 0) 16)) (bshl (b.getD ((4 * (i : Int)) + 2).toNat 0) 8)) (b.getD ((4 * (i : Int)) + 3).toNat 0)])) (d' := (.ints .i64 ((w16 b i) ++ [bor (bor (bor (bshl (b.getD (4 * (i : Int)).toNat 0) 24) (bshl (b.getD ((4 * (i : Int)) + 1).toNat 0) 16)) (bshl (b.getD ((4 * (i : Int)) + 2).toNat 0) 8)) (b.getD ((4 * (i : Int)) + 3).toNat 0)]))) (ss := []) rfl rfl (lt_ok rfl) (by kernel_rfl) rfl rfl rfl (lt_ok rfl) rfl (.froz rfl (by simp [D.flat, D.val])) (by simp) rfl (by simp only [D.size, List.length_map]; first | omega | (simp only [List.length_append, List.length_cons, List.length_nil]; omega) | (simp; omega) | (simp only [List.length_append] at *; omega)) (by simp only [D.size, List.length_map]; first | omega | (simp only [List.length_append, List.length_cons, List.length_nil]; omega) | (simp; omega) | (simp only [List.length_append] at *; omega)) (by simp)) ?_
       refine TL.as (.one (.row 41 [])) ?_
       refine TL.nil ?_
       refine T.region ?_
       refine TL.mv (pI (4 * (i : Int))) ?_
       refine TL.c (Step.bin (r := .int .i64 ((4 * (i : Int)) + 4)) rfl rfl (lt_ok rfl) rfl rfl (Bin.add (a := (4 * (i : Int))) (b := 4) (by first | exact wrap_ok (by first | omega | (simp; omega) | (simp [w16_len, wN_len]; omega)) (by first | omega | (simp; omega) | (simp [w16_len, wN_len]; omega)) | rfl))) ?_
       refine TL.as (pI ((4 * (i : Int)) + 4)) ?_
       refine TL.nil ?_
       refine ⟨i + 1, by omega, by first | omega | (dsimp only; omega), Env.le_mk ⟨rfl, rfl, ?_, rfl, trivial⟩ ⟨?_, trivial⟩ trivial⟩ <;> (first | rfl | (refine congrArg (fun x => some (_, D.ints .i64 x)) ?_; first | rfl | fail) | (refine congrArg (fun n => PV.one (.d (.int .i64 n))) ?_; first | rfl | omega | (simp; done)))
      ·
       replace h6 := of_decide_eq_false h6
       refine T.exit ?_
       refine T.seq ?_
       refine T.seq ?_
       refine T.region ?_
       refine TL.as (pI 16) ?_
       refine TL.nil ?_
       refine T.block ?_
       refine T.loop (ι := Nat) (fun xx_ => { tm := [(0, (.one (.d (.ints .i64 h)))), (9, (pI (16 + (xx_ : Int)))), (7, (.one (.row 41 [])))], rows := [(41, (3, (.ints .i64 (wN b xx_))))], boxes := [] }) (fun xx_ => xx_ ≤ 48) (fun xx_ => 48 - xx_) 0 ?_ ?_ ?_
       · refine Env.le_mk ⟨rfl, ?_, rfl, trivial⟩ ⟨?_, trivial⟩ trivial <;> (first | exact congrArg (fun x => some (_, D.ints .i64 (w16 b x))) (show i = 16 by omega) | rfl | (refine congrArg (fun x => some (_, D.ints .i64 x)) ?_; first | rfl | fail) | (refine congrArg (fun n => PV.one (.d (.int .i64 n))) ?_; first | rfl | omega | (simp; done)))
       · exact Nat.zero_le _
       ·
        intro i hx
        try dsimp only at hx ⊢
        have hl_ := wN_len b i
        refine T.seq ?_
        refine T.seq ?_
        refine T.region ?_
        refine TL.mv (pI (16 + (i : Int))) ?_
        refine TL.c (Step.bin rfl rfl (lt_ok rfl) rfl rfl (Bin.lss (k := .i64) (a := (16 + (i : Int))) (b := 64))) ?_
        refine TL.nil ?_
        refine T.cond (b := decide ((16 + (i : Int)) < 64)) rfl (fun h7 => ?_) (fun h7 => ?_)
        ·
         replace h7 := of_decide_eq_true h7
         refine T.skip ?_
         refine T.seq ?_
         refine T.block ?_
         refine T.seq ?_
         refine T.region ?_
         refine TL.mv (.one (.row 41 [])) ?_
         refine TL.mv (pI (16 + (i : Int))) ?_
         refine TL.c (Step.bin (r := .int .i64 ((16 + (i : Int)) - 15)) rfl rfl (lt_ok rfl) rfl rfl (Bin.sub (a := (16 + (i : Int))) (b := 15) (by first | exact wrap_ok (by first | omega | (simp; omega) | (simp [w16_len, wN_len]; omega)) (by first | omega | (simp; omega) | (simp [w16_len, wN_len]; omega)) | rfl))) ?_
         refine TL.c (Step.index_row (e := 3) (z := 1) (i := ((16 + (i : Int)) - 15)) rfl rfl (lt_ok rfl) (by kernel_rfl) rfl rfl rfl rfl (lt_ok rfl) rfl (by first | omega | (simp; omega) | (simp [w16_len, wN_len]; omega)) (by simp only [D.at_, D.cell, D.size]; first | omega | (simp; omega) | (simp [w16_len, wN_len]; omega))) ?_
         refine TL.c (Step.load_row (c := cI ((wN b i).getD ((16 + (i : Int)) - 15).toNat 0)) rfl rfl (lt_ok rfl) (by kernel_rfl) rfl rfl rfl) ?_
         refine TL.as (pI ((wN b i).getD ((16 + (i : Int)) - 15).toNat 0)) ?_
         refine TL.nil ?_
         refine T.seq ?_
         refine T.region ?_
         refine TL.mv (.one (.row 41 [])) ?_
         refine TL.mv (pI (16 + (i : Int))) ?_
         refine TL.c (Step.bin (r := .int .i64 ((16 + (i : Int)) - 2)) rfl rfl (lt_ok rfl) rfl rfl (Bin.sub (a := (16 + (i : Int))) (b := 2) (by first | exact wrap_ok (by first | omega | (simp; omega) | (simp [w16_len, wN_len]; omega)) (by first | omega | (simp; omega) | (simp [w16_len, wN_len]; omega)) | rfl))) ?_
         refine TL.c (Step.index_row (e := 3) (z := 1) (i := ((16 + (i : Int)) - 2)) rfl rfl (lt_ok rfl) (by kernel_rfl) rfl rfl rfl rfl (lt_ok rfl) rfl (by first | omega | (simp; omega) | (simp [w16_len, wN_len]; omega)) (by simp only [D.at_, D.cell, D.size]; first | omega | (simp; omega) | (simp [w16_len, wN_len]; omega))) ?_
         refine TL.c (Step.load_row (c := cI ((wN b i).getD ((16 + (i : Int)) - 2).toNat 0)) rfl rfl (lt_ok rfl) (by kernel_rfl) rfl rfl rfl) ?_
         refine TL.as (pI ((wN b i).getD ((16 + (i : Int)) - 2).toNat 0)) ?_
         refine TL.nil ?_
         refine T.seq ?_
         refine T.region ?_
         refine TL.mv (pI ((wN b i).getD ((16 + (i : Int)) - 15).toNat 0)) ?_
         refine TL.c (Step.cl (xs := [.tmp 92, .const (.int .i64 7)]) (ps := [(pI ((wN b i).getD ((16 + (i : Int)) - 15).toNat 0)), (pI 7)]) (g := .func 118) false (.cons (.one (.d _)) (.cons (.one (.d _)) .nil)) (ok_spec_l04Turn ((wN b i).getD ((16 + (i : Int)) - 15).toNat 0) 7 (by first | omega | decide))) ?_
         refine TL.mv (pI ((wN b i).getD ((16 + (i : Int)) - 15).toNat 0)) ?_
         refine TL.c (Step.cl (xs := [.tmp 94, .const (.int .i64 18)]) (ps := [(pI ((wN b i).getD ((16 + (i : Int)) - 15).toNat 0)), (pI 18)]) (g := .func 118) false (.cons (.one (.d _)) (.cons (.one (.d _)) .nil)) (ok_spec_l04Turn ((wN b i).getD ((16 + (i : Int)) - 15).toNat 0) 18 (by first | omega | decide))) ?_
         refine TL.c (Step.bin (r := .int .i64 (bxor (turnW ((wN b i).getD ((16 + (i : Int)) - 15).toNat 0) 7) (turnW ((wN b i).getD ((16 + (i : Int)) - 15).toNat 0) 18))) rfl rfl (lt_ok rfl) rfl rfl (Bin.xor (k := .i64) (a := (turnW ((wN b i).getD ((16 + (i : Int)) - 15).toNat 0) 7)) (b := (turnW ((wN b i).getD ((16 + (i : Int)) - 15).toNat 0) 18)) (rfl))) ?_
         refine TL.mv (pI ((wN b i).getD ((16 + (i : Int)) - 15).toNat 0)) ?_
         refine TL.c (Step.bin (r := .int .i64 (bshr ((wN b i).getD ((16 + (i : Int)) - 15).toNat 0) 3)) rfl rfl (lt_ok rfl) rfl rfl (Bin.shr (k := .i64) (k' := .u64) (a := ((wN b i).getD ((16 + (i : Int)) - 15).toNat 0)) (b := 3) (by first | omega | (simp; omega) | (simp [w16_len, wN_len]; omega)) (rfl))) ?_
         refine TL.c (Step.bin (r := .int .i64 (bxor (bxor (turnW ((wN b i).getD ((16 + (i : Int)) - 15).toNat 0) 7) (turnW ((wN b i).getD ((16 + (i : Int)) - 15).toNat 0) 18)) (bshr ((wN b i).getD ((16 + (i : Int)) - 15).toNat 0) 3))) rfl rfl (lt_ok rfl) rfl rfl (Bin.xor (k := .i64) (a := (bxor (turnW ((wN b i).getD ((16 + (i : Int)) - 15).toNat 0) 7) (turnW ((wN b i).getD ((16 + (i : Int)) - 15).toNat 0) 18))) (b := (bshr ((wN b i).getD ((16 + (i : Int)) - 15).toNat 0) 3)) (rfl))) ?_
         refine TL.as (pI (bxor (bxor (turnW ((wN b i).getD ((16 + (i : Int)) - 15).toNat 0) 7) (turnW ((wN b i).getD ((16 + (i : Int)) - 15).toNat 0) 18)) (bshr ((wN b i).getD ((16 + (i : Int)) - 15).toNat 0) 3))) ?_
         refine TL.nil ?_
         refine T.seq ?_
         refine T.region ?_
         refine TL.mv (pI ((wN b i).getD ((16 + (i : Int)) - 2).toNat 0)) ?_
         refine TL.c (Step.cl (xs := [.tmp 100, .const (.int .i64 17)]) (ps := [(pI ((wN b i).getD ((16 + (i : Int)) - 2).toNat 0)), (pI 17)]) (g := .func 118) false (.cons (.one (.d _)) (.cons (.one (.d _)) .nil)) (ok_spec_l04Turn ((wN b i).getD ((16 + (i : Int)) - 2).toNat 0) 17 (by first | omega | decide))) ?_
         refine TL.mv (pI ((wN b i).getD ((16 + (i : Int)) - 2).toNat 0)) ?_
         refine TL.c (Step.cl (xs := [.tmp 102, .const (.int .i64 19)]) (ps := [(pI ((wN b i).getD ((16 + (i : Int)) - 2).toNat 0)), (pI 19)]) (g := .func 118) false (.cons (.one (.d _)) (.cons (.one (.d _)) .nil)) (ok_spec_l04Turn ((wN b i).getD ((16 + (i : Int)) - 2).toNat 0) 19 (by first | omega | decide))) ?_
         refine TL.c (Step.bin (r := .int .i64 (bxor (turnW ((wN b i).getD ((16 + (i : Int)) - 2).toNat 0) 17) (turnW ((wN b i).getD ((16 + (i : Int)) - 2).toNat 0) 19))) rfl rfl (lt_ok rfl) rfl rfl (Bin.xor (k := .i64) (a := (turnW ((wN b i).getD ((16 + (i : Int)) - 2).toNat 0) 17)) (b := (turnW ((wN b i).getD ((16 + (i : Int)) - 2).toNat 0) 19)) (rfl))) ?_
         refine TL.mv (pI ((wN b i).getD ((16 + (i : Int)) - 2).toNat 0)) ?_
         refine TL.c (Step.bin (r := .int .i64 (bshr ((wN b i).getD ((16 + (i : Int)) - 2).toNat 0) 10)) rfl rfl (lt_ok rfl) rfl rfl (Bin.shr (k := .i64) (k' := .u64) (a := ((wN b i).getD ((16 + (i : Int)) - 2).toNat 0)) (b := 10) (by first | omega | (simp; omega) | (simp [w16_len, wN_len]; omega)) (rfl))) ?_
         refine TL.c (Step.bin (r := .int .i64 (bxor (bxor (turnW ((wN b i).getD ((16 + (i : Int)) - 2).toNat 0) 17) (turnW ((wN b i).getD ((16 + (i : Int)) - 2).toNat 0) 19)) (bshr ((wN b i).getD ((16 + (i : Int)) - 2).toNat 0) 10))) rfl rfl (lt_ok rfl) rfl rfl (Bin.xor (k := .i64) (a := (bxor (turnW ((wN b i).getD ((16 + (i : Int)) - 2).toNat 0) 17) (turnW ((wN b i).getD ((16 + (i : Int)) - 2).toNat 0) 19))) (b := (bshr ((wN b i).getD ((16 + (i : Int)) - 2).toNat 0) 10)) (rfl))) ?_
         refine TL.as (pI (bxor (bxor (turnW ((wN b i).getD ((16 + (i : Int)) - 2).toNat 0) 17) (turnW ((wN b i).getD ((16 + (i : Int)) - 2).toNat 0) 19)) (bshr ((wN b i).getD ((16 + (i : Int)) - 2).toNat 0) 10))) ?_
         refine TL.nil ?_
         refine T.draw [⟨108, (.one (.row 41 [])), []⟩, ⟨109, (.one (.row 41 [])), []⟩, ⟨110, (pI (16 + (i : Int))), []⟩, ⟨111, (pI ((16 + (i : Int)) - 16)), []⟩, ⟨112, (.one (.rptr 41 [] ((16 + (i : Int)) - 16).toNat 0)), []⟩, ⟨113, (pI ((wN b i).getD ((16 + (i : Int)) - 16).toNat 0)), []⟩, ⟨114, (pI (bxor (bxor (turnW ((wN b i).getD ((16 + (i : Int)) - 15).toNat 0) 7) (turnW ((wN b i).getD ((16 + (i : Int)) - 15).toNat 0) 18)) (bshr ((wN b i).getD ((16 + (i : Int)) - 15).toNat 0) 3))), []⟩, ⟨115, (pI (wadd ((wN b i).getD ((16 + (i : Int)) - 16).toNat 0) (bxor (bxor (turnW ((wN b i).getD ((16 + (i : Int)) - 15).toNat 0) 7) (turnW ((wN b i).getD ((16 + (i : Int)) - 15).toNat 0) 18)) (bshr ((wN b i).getD ((16 + (i : Int)) - 15).toNat 0) 3)))), []⟩, ⟨116, (.one (.row 41 [])), []⟩, ⟨117, (pI (16 + (i : Int))), []⟩, ⟨118, (pI ((16 + (i : Int)) - 7)), []⟩, ⟨119, (.one (.rptr 41 [] ((16 + (i : Int)) - 7).toNat 0)), []⟩, ⟨120, (pI ((wN b i).getD ((16 + (i : Int)) - 7).toNat 0)), []⟩, ⟨121, (pI (wadd (wadd ((wN b i).getD ((16 + (i : Int)) - 16).toNat 0) (bxor (bxor (turnW ((wN b i).getD ((16 + (i : Int)) - 15).toNat 0) 7) (turnW ((wN b i).getD ((16 + (i : Int)) - 15).toNat 0) 18)) (bshr ((wN b i).getD ((16 + (i : Int)) - 15).toNat 0) 3))) ((wN b i).getD ((16 + (i : Int)) - 7).toNat 0))), []⟩, ⟨122, (pI (bxor (bxor (turnW ((wN b i).getD ((16 + (i : Int)) - 2).toNat 0) 17) (turnW ((wN b i).getD ((16 + (i : Int)) - 2).toNat 0) 19)) (bshr ((wN b i).getD ((16 + (i : Int)) - 2).toNat 0) 10))), []⟩, ⟨123, (pI (wadd (wadd (wadd ((wN b i).getD ((16 + (i : Int)) - 16).toNat 0) (bxor (bxor (turnW ((wN b i).getD ((16 + (i : Int)) - 15).toNat 0) 7) (turnW ((wN b i).getD ((16 + (i : Int)) - 15).toNat 0) 18)) (bshr ((wN b i).getD ((16 + (i : Int)) - 15).toNat 0) 3))) ((wN b i).getD ((16 + (i : Int)) - 7).toNat 0)) (bxor (bxor (turnW ((wN b i).getD ((16 + (i : Int)) - 2).toNat 0) 17) (turnW ((wN b i).getD ((16 + (i : Int)) - 2).toNat 0) 19)) (bshr ((wN b i).getD ((16 + (i : Int)) - 2).toNat 0) 10)))), []⟩, ⟨124, (pI (band (wadd (wadd (wadd ((wN b i).getD ((16 + (i : Int)) - 16).toNat 0) (bxor (bxor (turnW ((wN b i).getD ((16 + (i : Int)) - 15).toNat 0) 7) (turnW ((wN b i).getD ((16 + (i : Int)) - 15).toNat 0) 18)) (bshr ((wN b i).getD ((16 + (i : Int)) - 15).toNat 0) 3))) ((wN b i).getD ((16 + (i : Int)) - 7).toNat 0)) (bxor (bxor (turnW ((wN b i).getD ((16 + (i : Int)) - 2).toNat 0) 17) (turnW ((wN b i).getD ((16 + (i : Int)) - 2).toNat 0) 19)) (bshr ((wN b i).getD ((16 + (i : Int)) - 2).toNat 0) 10))) 4294967295)), []⟩, ⟨125, (.one (.d (.ints .i64 [band (wadd (wadd (wadd ((wN b i).getD ((16 + (i : Int)) - 16).toNat 0) (bxor (bxor (turnW ((wN b i).getD ((16 + (i : Int)) - 15).toNat 0) 7) (turnW ((wN b i).getD ((16 + (i : Int)) - 15).toNat 0) 18)) (bshr ((wN b i).getD ((16 + (i : Int)) - 15).toNat 0) 3))) ((wN b i).getD ((16 + (i : Int)) - 7).toNat 0)) (bxor (bxor (turnW ((wN b i).getD ((16 + (i : Int)) - 2).toNat 0) 17) (turnW ((wN b i).getD ((16 + (i : Int)) - 2).toNat 0) 19)) (bshr ((wN b i).getD ((16 + (i : Int)) - 2).toNat 0) 10))) 4294967295]))), []⟩] (by kernel_rfl) (by kernel_rfl) ?_ ?_
         ·
          refine .cons (fun E A => A.mv 7 108) ?_
          refine .cons (fun E A => A.mv 7 109) ?_
          refine .cons (fun E A => A.mv 9 110) ?_
          refine .cons (fun E A => OpStep.plain rfl (Step.bd (r := .int .i64 ((16 + (i : Int)) - 16)) 111 (A.g 110 rfl) rfl (Bin.sub (a := (16 + (i : Int))) (b := 16) (by first | exact wrap_ok (by first | omega | (simp; omega) | (simp [w16_len, wN_len]; omega)) (by first | omega | (simp; omega) | (simp [w16_len, wN_len]; omega)) | rfl)))) ?_
          refine .cons (fun E A => OpStep.plain rfl (Step.index_row (e := 3) (z := 1) (i := ((16 + (i : Int)) - 16)) (t := 112) rfl rfl (by exact lt_ok rfl) (by kernel_rfl) (A.g 109 rfl) (by exact (A.row 41 (by kernel_rfl)).trans rfl) rfl rfl (lt_ok rfl) (A.g 111 rfl) (by first | omega | (simp; omega) | (simp [w16_len, wN_len]; omega)) (by simp only [D.at_, D.cell, D.size]; first | omega | (simp; omega) | (simp [w16_len, wN_len]; omega)))) ?_
          refine .cons (fun E A => OpStep.plain rfl (Step.load_row (c := cI ((wN b i).getD ((16 + (i : Int)) - 16).toNat 0)) (t := 113) rfl rfl (by exact lt_ok rfl) (by kernel_rfl) (A.g 112 rfl) (by exact (A.row 41 (by kernel_rfl)).trans rfl) rfl)) ?_
          refine .cons (fun E A => A.mv 12 114) ?_
          refine .cons (fun E A => OpStep.plain rfl (Step.bd (r := .int .i64 (wadd ((wN b i).getD ((16 + (i : Int)) - 16).toNat 0) (bxor (bxor (turnW ((wN b i).getD ((16 + (i : Int)) - 15).toNat 0) 7) (turnW ((wN b i).getD ((16 + (i : Int)) - 15).toNat 0) 18)) (bshr ((wN b i).getD ((16 + (i : Int)) - 15).toNat 0) 3)))) 115 (A.g 113 rfl) (A.g 114 rfl) (Bin.add (k := .i64) (a := ((wN b i).getD ((16 + (i : Int)) - 16).toNat 0)) (b := (bxor (bxor (turnW ((wN b i).getD ((16 + (i : Int)) - 15).toNat 0) 7) (turnW ((wN b i).getD ((16 + (i : Int)) - 15).toNat 0) 18)) (bshr ((wN b i).getD ((16 + (i : Int)) - 15).toNat 0) 3))) (rfl)))) ?_
          refine .cons (fun E A => A.mv 7 116) ?_
          refine .cons (fun E A => A.mv 9 117) ?_
          refine .cons (fun E A => OpStep.plain rfl (Step.bd (r := .int .i64 ((16 + (i : Int)) - 7)) 118 (A.g 117 rfl) rfl (Bin.sub (a := (16 + (i : Int))) (b := 7) (by first | exact wrap_ok (by first | omega | (simp; omega) | (simp [w16_len, wN_len]; omega)) (by first | omega | (simp; omega) | (simp [w16_len, wN_len]; omega)) | rfl)))) ?_
          refine .cons (fun E A => OpStep.plain rfl (Step.index_row (e := 3) (z := 1) (i := ((16 + (i : Int)) - 7)) (t := 119) rfl rfl (by exact lt_ok rfl) (by kernel_rfl) (A.g 116 rfl) (by exact (A.row 41 (by kernel_rfl)).trans rfl) rfl rfl (lt_ok rfl) (A.g 118 rfl) (by first | omega | (simp; omega) | (simp [w16_len, wN_len]; omega)) (by simp only [D.at_, D.cell, D.size]; first | omega | (simp; omega) | (simp [w16_len, wN_len]; omega)))) ?_
          refine .cons (fun E A => OpStep.plain rfl (Step.load_row (c := cI ((wN b i).getD ((16 + (i : Int)) - 7).toNat 0)) (t := 120) rfl rfl (by exact lt_ok rfl) (by kernel_rfl) (A.g 119 rfl) (by exact (A.row 41 (by kernel_rfl)).trans rfl) rfl)) ?_
          refine .cons (fun E A => OpStep.plain rfl (Step.bd (r := .int .i64 (wadd (wadd ((wN b i).getD ((16 + (i : Int)) - 16).toNat 0) (bxor (bxor (turnW ((wN b i).getD ((16 + (i : Int)) - 15).toNat 0) 7) (turnW ((wN b i).getD ((16 + (i : Int)) - 15).toNat 0) 18)) (bshr ((wN b i).getD ((16 + (i : Int)) - 15).toNat 0) 3))) ((wN b i).getD ((16 + (i : Int)) - 7).toNat 0))) 121 (A.g 115 rfl) (A.g 120 rfl) (Bin.add (k := .i64) (a := (wadd ((wN b i).getD ((16 + (i : Int)) - 16).toNat 0) (bxor (bxor (turnW ((wN b i).getD ((16 + (i : Int)) - 15).toNat 0) 7) (turnW ((wN b i).getD ((16 + (i : Int)) - 15).toNat 0) 18)) (bshr ((wN b i).getD ((16 + (i : Int)) - 15).toNat 0) 3)))) (b := ((wN b i).getD ((16 + (i : Int)) - 7).toNat 0)) (rfl)))) ?_
          refine .cons (fun E A => A.mv 13 122) ?_
          refine .cons (fun E A => OpStep.plain rfl (Step.bd (r := .int .i64 (wadd (wadd (wadd ((wN b i).getD ((16 + (i : Int)) - 16).toNat 0) (bxor (bxor (turnW ((wN b i).getD ((16 + (i : Int)) - 15).toNat 0) 7) (turnW ((wN b i).getD ((16 + (i : Int)) - 15).toNat 0) 18)) (bshr ((wN b i).getD ((16 + (i : Int)) - 15).toNat 0) 3))) ((wN b i).getD ((16 + (i : Int)) - 7).toNat 0)) (bxor (bxor (turnW ((wN b i).getD ((16 + (i : Int)) - 2).toNat 0) 17) (turnW ((wN b i).getD ((16 + (i : Int)) - 2).toNat 0) 19)) (bshr ((wN b i).getD ((16 + (i : Int)) - 2).toNat 0) 10)))) 123 (A.g 121 rfl) (A.g 122 rfl) (Bin.add (k := .i64) (a := (wadd (wadd ((wN b i).getD ((16 + (i : Int)) - 16).toNat 0) (bxor (bxor (turnW ((wN b i).getD ((16 + (i : Int)) - 15).toNat 0) 7) (turnW ((wN b i).getD ((16 + (i : Int)) - 15).toNat 0) 18)) (bshr ((wN b i).getD ((16 + (i : Int)) - 15).toNat 0) 3))) ((wN b i).getD ((16 + (i : Int)) - 7).toNat 0))) (b := (bxor (bxor (turnW ((wN b i).getD ((16 + (i : Int)) - 2).toNat 0) 17) (turnW ((wN b i).getD ((16 + (i : Int)) - 2).toNat 0) 19)) (bshr ((wN b i).getD ((16 + (i : Int)) - 2).toNat 0) 10))) (rfl)))) ?_
          refine .cons (fun E A => OpStep.plain rfl (Step.bd (r := .int .i64 (band (wadd (wadd (wadd ((wN b i).getD ((16 + (i : Int)) - 16).toNat 0) (bxor (bxor (turnW ((wN b i).getD ((16 + (i : Int)) - 15).toNat 0) 7) (turnW ((wN b i).getD ((16 + (i : Int)) - 15).toNat 0) 18)) (bshr ((wN b i).getD ((16 + (i : Int)) - 15).toNat 0) 3))) ((wN b i).getD ((16 + (i : Int)) - 7).toNat 0)) (bxor (bxor (turnW ((wN b i).getD ((16 + (i : Int)) - 2).toNat 0) 17) (turnW ((wN b i).getD ((16 + (i : Int)) - 2).toNat 0) 19)) (bshr ((wN b i).getD ((16 + (i : Int)) - 2).toNat 0) 10))) 4294967295)) 124 (A.g 123 rfl) rfl (Bin.and (k := .i64) (a := (wadd (wadd (wadd ((wN b i).getD ((16 + (i : Int)) - 16).toNat 0) (bxor (bxor (turnW ((wN b i).getD ((16 + (i : Int)) - 15).toNat 0) 7) (turnW ((wN b i).getD ((16 + (i : Int)) - 15).toNat 0) 18)) (bshr ((wN b i).getD ((16 + (i : Int)) - 15).toNat 0) 3))) ((wN b i).getD ((16 + (i : Int)) - 7).toNat 0)) (bxor (bxor (turnW ((wN b i).getD ((16 + (i : Int)) - 2).toNat 0) 17) (turnW ((wN b i).getD ((16 + (i : Int)) - 2).toNat 0) 19)) (bshr ((wN b i).getD ((16 + (i : Int)) - 2).toNat 0) 10)))) (b := 4294967295) (rfl)))) ?_
          refine .cons (fun E A => OpStep.plain rfl (Step.lit_d (e := 3) (z := 1) (by_ := 8) (xs := [.tmp 124]) (pss := [[cI (band (wadd (wadd (wadd ((wN b i).getD ((16 + (i : Int)) - 16).toNat 0) (bxor (bxor (turnW ((wN b i).getD ((16 + (i : Int)) - 15).toNat 0) 7) (turnW ((wN b i).getD ((16 + (i : Int)) - 15).toNat 0) 18)) (bshr ((wN b i).getD ((16 + (i : Int)) - 15).toNat 0) 3))) ((wN b i).getD ((16 + (i : Int)) - 7).toNat 0)) (bxor (bxor (turnW ((wN b i).getD ((16 + (i : Int)) - 2).toNat 0) 17) (turnW ((wN b i).getD ((16 + (i : Int)) - 2).toNat 0) 19)) (bshr ((wN b i).getD ((16 + (i : Int)) - 2).toNat 0) 10))) 4294967295)]]) (ds := [(.int .i64 (band (wadd (wadd (wadd ((wN b i).getD ((16 + (i : Int)) - 16).toNat 0) (bxor (bxor (turnW ((wN b i).getD ((16 + (i : Int)) - 15).toNat 0) 7) (turnW ((wN b i).getD ((16 + (i : Int)) - 15).toNat 0) 18)) (bshr ((wN b i).getD ((16 + (i : Int)) - 15).toNat 0) 3))) ((wN b i).getD ((16 + (i : Int)) - 7).toNat 0)) (bxor (bxor (turnW ((wN b i).getD ((16 + (i : Int)) - 2).toNat 0) 17) (turnW ((wN b i).getD ((16 + (i : Int)) - 2).toNat 0) 19)) (bshr ((wN b i).getD ((16 + (i : Int)) - 2).toNat 0) 10))) 4294967295))]) (d := (.ints .i64 [band (wadd (wadd (wadd ((wN b i).getD ((16 + (i : Int)) - 16).toNat 0) (bxor (bxor (turnW ((wN b i).getD ((16 + (i : Int)) - 15).toNat 0) 7) (turnW ((wN b i).getD ((16 + (i : Int)) - 15).toNat 0) 18)) (bshr ((wN b i).getD ((16 + (i : Int)) - 15).toNat 0) 3))) ((wN b i).getD ((16 + (i : Int)) - 7).toNat 0)) (bxor (bxor (turnW ((wN b i).getD ((16 + (i : Int)) - 2).toNat 0) 17) (turnW ((wN b i).getD ((16 + (i : Int)) - 2).toNat 0) 19)) (bshr ((wN b i).getD ((16 + (i : Int)) - 2).toNat 0) 10))) 4294967295])) (t := 125) rfl rfl (by exact lt_ok rfl) (by kernel_rfl) rfl rfl (.cons (by exact (congrArg PV.flat (A.g 124 rfl)).trans rfl) .nil) (by simp) (le_ok rfl) (le_ok rfl) rfl rfl trivial rfl rfl)) ?_
          exact .nil _ _
         refine TL.c (Step.append (e := 3) (z := 1) (by_ := 8) (d := (.ints .i64 (wN b i))) (dy := (.ints .i64 [band (wadd (wadd (wadd ((wN b i).getD ((16 + (i : Int)) - 16).toNat 0) (bxor (bxor (turnW ((wN b i).getD ((16 + (i : Int)) - 15).toNat 0) 7) (turnW ((wN b i).getD ((16 + (i : Int)) - 15).toNat 0) 18)) (bshr ((wN b i).getD ((16 + (i : Int)) - 15).toNat 0) 3))) ((wN b i).getD ((16 + (i : Int)) - 7).toNat 0)) (bxor (bxor (turnW ((wN b i).getD ((16 + (i : Int)) - 2).toNat 0) 17) (turnW ((wN b i).getD ((16 + (i : Int)) - 2).toNat 0) 19)) (bshr ((wN b i).getD ((16 + (i : Int)) - 2).toNat 0) 10))) 4294967295])) (d' := (.ints .i64 ((wN b i) ++ [band (wadd (wadd (wadd ((wN b i).getD ((16 + (i : Int)) - 16).toNat 0) (bxor (bxor (turnW ((wN b i).getD ((16 + (i : Int)) - 15).toNat 0) 7) (turnW ((wN b i).getD ((16 + (i : Int)) - 15).toNat 0) 18)) (bshr ((wN b i).getD ((16 + (i : Int)) - 15).toNat 0) 3))) ((wN b i).getD ((16 + (i : Int)) - 7).toNat 0)) (bxor (bxor (turnW ((wN b i).getD ((16 + (i : Int)) - 2).toNat 0) 17) (turnW ((wN b i).getD ((16 + (i : Int)) - 2).toNat 0) 19)) (bshr ((wN b i).getD ((16 + (i : Int)) - 2).toNat 0) 10))) 4294967295]))) (ss := []) rfl rfl (lt_ok rfl) (by kernel_rfl) rfl rfl rfl (lt_ok rfl) rfl (.froz rfl (by simp [D.flat, D.val])) (by simp) rfl (by simp only [D.size, List.length_map]; first | omega | (simp only [List.length_append, List.length_cons, List.length_nil]; omega) | (simp; omega) | (simp only [List.length_append] at *; omega)) (by simp only [D.size, List.length_map]; first | omega | (simp only [List.length_append, List.length_cons, List.length_nil]; omega) | (simp; omega) | (simp only [List.length_append] at *; omega)) (by simp)) ?_
         refine TL.as (.one (.row 41 [])) ?_
         refine TL.nil ?_
         refine T.region ?_
         refine TL.mv (pI (16 + (i : Int))) ?_
         refine TL.c (Step.bin (r := .int .i64 ((16 + (i : Int)) + 1)) rfl rfl (lt_ok rfl) rfl rfl (Bin.add (a := (16 + (i : Int))) (b := 1) (by first | exact wrap_ok (by first | omega | (simp; omega) | (simp [w16_len, wN_len]; omega)) (by first | omega | (simp; omega) | (simp [w16_len, wN_len]; omega)) | rfl))) ?_
         refine TL.as (pI ((16 + (i : Int)) + 1)) ?_
         refine TL.nil ?_
         refine ⟨i + 1, by omega, by first | omega | (dsimp only; omega), Env.le_mk ⟨rfl, ?_, rfl, trivial⟩ ⟨?_, trivial⟩ trivial⟩ <;> (first | exact congrArg (fun x => some (_, D.ints .i64 (w16 b x))) (show i = 16 by omega) | rfl | (refine congrArg (fun x => some (_, D.ints .i64 x)) ?_; first | rfl | fail) | (refine congrArg (fun n => PV.one (.d (.int .i64 n))) ?_; first | rfl | omega | (simp; done)))
        ·
         replace h7 := of_decide_eq_false h7
         refine T.exit ?_
         refine T.seq ?_
         refine T.region ?_
         refine TL.c (Step.cl (xs := []) (ps := []) (g := .func 119) false .nil (ok_spec_l04K )) ?_
         refine TL.as (.one (.row 1127 [])) ?_
         refine TL.nil ?_
         refine T.seq ?_
         refine T.region ?_
         refine TL.c (Step.lit (e := 3) (z := 1) (by_ := 8) (xs := []) (pss := []) (es := []) (ss := []) (d := (.ints .i64 [])) rfl rfl (lt_ok rfl) (by kernel_rfl) rfl rfl .nil (by simp) (le_ok rfl) (le_ok rfl) rfl .nil rfl (by simp) (by simp) rfl trivial rfl rfl) ?_
         refine TL.mv (.one (.d (.ints .i64 h))) ?_
         refine TL.c (Step.append (e := 3) (z := 1) (by_ := 8) (d := (.ints .i64 [])) (dy := (.ints .i64 h)) (d' := (.ints .i64 ([] ++ h))) (ss := []) rfl rfl (lt_ok rfl) (by kernel_rfl) rfl rfl rfl (lt_ok rfl) rfl (.froz rfl (by simp [D.flat, D.val])) (by simp) rfl (by simp only [D.size, List.length_map]; first | omega | (simp only [List.length_append, List.length_cons, List.length_nil]; omega) | (simp; omega) | (simp only [List.length_append] at *; omega)) (by simp only [D.size, List.length_map]; first | omega | (simp only [List.length_append, List.length_cons, List.length_nil]; omega) | (simp; omega) | (simp only [List.length_append] at *; omega)) (by simp)) ?_
         refine TL.as (.one (.row 128 [])) ?_
         refine TL.nil ?_
         refine T.seq ?_
         refine T.seq ?_
         refine T.region ?_
         refine TL.freeze (r := 128) rfl (fun _ h => h) ?_
         refine TL.as (pI 0) ?_
         refine TL.nil ?_
         refine T.block ?_
         refine T.loop (ι := Nat) (fun xx_ => { tm := [(0, (.one (.d (.ints .i64 h)))), (7, (.one (.row 41 []))), (14, (.one (.row 1127 []))), (16, (pI (xx_ : Int))), (15, (.one (.d (.ints .i64 (vN h (wN b 48) xx_)))))], rows := [(41, (3, (.ints .i64 (wN b 48)))), (1127, (3, (.ints .i64 shaK)))], boxes := [] }) (fun xx_ => xx_ ≤ 64) (fun xx_ => 64 - xx_) 0 ?_ ?_ ?_
         · refine Env.le_mk ⟨rfl, rfl, rfl, ?_, ?_, trivial⟩ ⟨?_, rfl, trivial⟩ trivial <;> (first | exact congrArg (fun x => some (_, D.ints .i64 (wN b x))) (show i = 48 by omega) | rfl | (refine congrArg (fun x => some (_, D.ints .i64 x)) ?_; first | rfl | fail) | (refine congrArg (fun n => PV.one (.d (.int .i64 n))) ?_; first | rfl | omega | (simp; done)))
         · exact Nat.zero_le _
         ·
          intro i hx
          try dsimp only at hx ⊢
          have hl_ := wN_len b 48
          have hvl_ := vN_len (h := h) (w := wN b 48) (by omega) i
          have hkl_ : shaK.length = 64 := rfl
          refine T.seq ?_
          refine T.seq ?_
          refine T.region ?_
          refine TL.mv (pI (i : Int)) ?_
          refine TL.c (Step.bin rfl rfl (lt_ok rfl) rfl rfl (Bin.lss (k := .i64) (a := (i : Int)) (b := 64))) ?_
          refine TL.nil ?_
          refine T.cond (b := decide ((i : Int) < 64)) rfl (fun h8 => ?_) (fun h8 => ?_)
          ·
           replace h8 := of_decide_eq_true h8
           refine T.skip ?_
           refine T.seq ?_
           refine T.block ?_
           refine T.seq ?_
           refine T.region ?_
           refine TL.mv (.one (.d (.ints .i64 (vN h (wN b 48) i)))) ?_
           refine TL.c (Step.index (e := 3) (z := 1) (i := 4) rfl rfl (lt_ok rfl) (by kernel_rfl) rfl rfl rfl (lt_ok rfl) rfl (by first | omega | (simp; omega) | (simp [w16_len, wN_len]; omega)) (by simp only [D.size]; first | omega | (simp; omega) | (simp [w16_len, wN_len]; omega))) ?_
           refine TL.c (Step.load (e := (.int .i64 ((vN h (wN b 48) i).getD 4 0))) rfl rfl (lt_ok rfl) (by kernel_rfl) rfl rfl) ?_
           refine TL.as (pI ((vN h (wN b 48) i).getD 4 0)) ?_
           refine TL.nil ?_
           refine T.seq ?_
           refine T.region ?_
           refine TL.mv (.one (.d (.ints .i64 (vN h (wN b 48) i)))) ?_
           refine TL.c (Step.index (e := 3) (z := 1) (i := 0) rfl rfl (lt_ok rfl) (by kernel_rfl) rfl rfl rfl (lt_ok rfl) rfl (by first | omega | (simp; omega) | (simp [w16_len, wN_len]; omega)) (by simp only [D.size]; first | omega | (simp; omega) | (simp [w16_len, wN_len]; omega))) ?_
           refine TL.c (Step.load (e := (.int .i64 ((vN h (wN b 48) i).getD 0 0))) rfl rfl (lt_ok rfl) (by kernel_rfl) rfl rfl) ?_
           refine TL.as (pI ((vN h (wN b 48) i).getD 0 0)) ?_
           refine TL.nil ?_
           refine T.seq ?_
           refine T.draw [⟨141, (.one (.d (.ints .i64 (vN h (wN b 48) i)))), []⟩, ⟨142, (.one (.eptr (.ints .i64 (vN h (wN b 48) i)) 7 0)), []⟩, ⟨143, (pI ((vN h (wN b 48) i).getD 7 0)), []⟩, ⟨144, (pI ((vN h (wN b 48) i).getD 4 0)), []⟩, ⟨145, (pI (turnW ((vN h (wN b 48) i).getD 4 0) 6)), []⟩, ⟨146, (pI ((vN h (wN b 48) i).getD 4 0)), []⟩, ⟨147, (pI (turnW ((vN h (wN b 48) i).getD 4 0) 11)), []⟩, ⟨148, (pI (bxor (turnW ((vN h (wN b 48) i).getD 4 0) 6) (turnW ((vN h (wN b 48) i).getD 4 0) 11))), []⟩, ⟨149, (pI ((vN h (wN b 48) i).getD 4 0)), []⟩, ⟨150, (pI (turnW ((vN h (wN b 48) i).getD 4 0) 25)), []⟩, ⟨151, (pI (bxor (bxor (turnW ((vN h (wN b 48) i).getD 4 0) 6) (turnW ((vN h (wN b 48) i).getD 4 0) 11)) (turnW ((vN h (wN b 48) i).getD 4 0) 25))), []⟩, ⟨152, (pI (wadd ((vN h (wN b 48) i).getD 7 0) (bxor (bxor (turnW ((vN h (wN b 48) i).getD 4 0) 6) (turnW ((vN h (wN b 48) i).getD 4 0) 11)) (turnW ((vN h (wN b 48) i).getD 4 0) 25)))), []⟩, ⟨153, (pI ((vN h (wN b 48) i).getD 4 0)), []⟩, ⟨154, (.one (.d (.ints .i64 (vN h (wN b 48) i)))), []⟩, ⟨155, (.one (.eptr (.ints .i64 (vN h (wN b 48) i)) 5 0)), []⟩, ⟨156, (pI ((vN h (wN b 48) i).getD 5 0)), []⟩, ⟨157, (pI (band ((vN h (wN b 48) i).getD 4 0) ((vN h (wN b 48) i).getD 5 0))), []⟩, ⟨158, (pI ((vN h (wN b 48) i).getD 4 0)), []⟩, ⟨159, (pI (bxor 4294967295 ((vN h (wN b 48) i).getD 4 0))), []⟩, ⟨160, (.one (.d (.ints .i64 (vN h (wN b 48) i)))), []⟩, ⟨161, (.one (.eptr (.ints .i64 (vN h (wN b 48) i)) 6 0)), []⟩, ⟨162, (pI ((vN h (wN b 48) i).getD 6 0)), []⟩, ⟨163, (pI (band (bxor 4294967295 ((vN h (wN b 48) i).getD 4 0)) ((vN h (wN b 48) i).getD 6 0))), []⟩, ⟨164, (pI (bxor (band ((vN h (wN b 48) i).getD 4 0) ((vN h (wN b 48) i).getD 5 0)) (band (bxor 4294967295 ((vN h (wN b 48) i).getD 4 0)) ((vN h (wN b 48) i).getD 6 0)))), []⟩, ⟨165, (pI (wadd (wadd ((vN h (wN b 48) i).getD 7 0) (bxor (bxor (turnW ((vN h (wN b 48) i).getD 4 0) 6) (turnW ((vN h (wN b 48) i).getD 4 0) 11)) (turnW ((vN h (wN b 48) i).getD 4 0) 25))) (bxor (band ((vN h (wN b 48) i).getD 4 0) ((vN h (wN b 48) i).getD 5 0)) (band (bxor 4294967295 ((vN h (wN b 48) i).getD 4 0)) ((vN h (wN b 48) i).getD 6 0))))), []⟩, ⟨166, (.one (.row 1127 [])), []⟩, ⟨167, (pI (i : Int)), []⟩, ⟨168, (.one (.rptr 1127 [] i 0)), []⟩, ⟨169, (pI (shaK.getD i 0)), []⟩, ⟨170, (pI (wadd (wadd (wadd ((vN h (wN b 48) i).getD 7 0) (bxor (bxor (turnW ((vN h (wN b 48) i).getD 4 0) 6) (turnW ((vN h (wN b 48) i).getD 4 0) 11)) (turnW ((vN h (wN b 48) i).getD 4 0) 25))) (bxor (band ((vN h (wN b 48) i).getD 4 0) ((vN h (wN b 48) i).getD 5 0)) (band (bxor 4294967295 ((vN h (wN b 48) i).getD 4 0)) ((vN h (wN b 48) i).getD 6 0)))) (shaK.getD i 0))), []⟩, ⟨171, (.one (.row 41 [])), []⟩, ⟨172, (pI (i : Int)), []⟩, ⟨173, (.one (.rptr 41 [] i 0)), []⟩, ⟨174, (pI ((wN b 48).getD i 0)), []⟩, ⟨175, (pI (wadd (wadd (wadd (wadd ((vN h (wN b 48) i).getD 7 0) (bxor (bxor (turnW ((vN h (wN b 48) i).getD 4 0) 6) (turnW ((vN h (wN b 48) i).getD 4 0) 11)) (turnW ((vN h (wN b 48) i).getD 4 0) 25))) (bxor (band ((vN h (wN b 48) i).getD 4 0) ((vN h (wN b 48) i).getD 5 0)) (band (bxor 4294967295 ((vN h (wN b 48) i).getD 4 0)) ((vN h (wN b 48) i).getD 6 0)))) (shaK.getD i 0)) ((wN b 48).getD i 0))), []⟩, ⟨19, (pI (wadd (wadd (wadd (wadd ((vN h (wN b 48) i).getD 7 0) (bxor (bxor (turnW ((vN h (wN b 48) i).getD 4 0) 6) (turnW ((vN h (wN b 48) i).getD 4 0) 11)) (turnW ((vN h (wN b 48) i).getD 4 0) 25))) (bxor (band ((vN h (wN b 48) i).getD 4 0) ((vN h (wN b 48) i).getD 5 0)) (band (bxor 4294967295 ((vN h (wN b 48) i).getD 4 0)) ((vN h (wN b 48) i).getD 6 0)))) (shaK.getD i 0)) ((wN b 48).getD i 0))), []⟩] (by kernel_rfl) (by kernel_rfl) ?_ ?_
           ·
            refine .cons (fun E A => A.mv 15 141) ?_
            refine .cons (fun E A => OpStep.plain rfl (Step.index (e := 3) (z := 1) (i := 7) (t := 142) rfl rfl (by exact lt_ok rfl) (by kernel_rfl) (A.g 141 rfl) rfl rfl (lt_ok rfl) rfl (by first | omega | (simp; omega) | (simp [w16_len, wN_len]; omega)) (by simp only [D.size]; first | omega | (simp; omega) | (simp [w16_len, wN_len]; omega)))) ?_
            refine .cons (fun E A => OpStep.plain rfl (Step.load (e := (.int .i64 ((vN h (wN b 48) i).getD 7 0))) (t := 143) rfl rfl (by exact lt_ok rfl) (by kernel_rfl) (A.g 142 rfl) rfl)) ?_
            refine .cons (fun E A => A.mv 17 144) ?_
            refine .cons (fun E A => OpStep.plain rfl (Step.cd (xs := [.tmp 144, .const (.int .i64 6)]) (ps := [(pI ((vN h (wN b 48) i).getD 4 0)), (pI 6)]) (g := .func 118) false 145 (evs_cons (A.g 144 rfl) (evs_cons rfl (rfl))) (.cons (.one (.d _)) (.cons (.one (.d _)) .nil)) (ok_spec_l04Turn ((vN h (wN b 48) i).getD 4 0) 6 (by first | omega | decide)) (At.freshRows A rfl))) ?_
            refine .cons (fun E A => A.mv 17 146) ?_
            refine .cons (fun E A => OpStep.plain rfl (Step.cd (xs := [.tmp 146, .const (.int .i64 11)]) (ps := [(pI ((vN h (wN b 48) i).getD 4 0)), (pI 11)]) (g := .func 118) false 147 (evs_cons (A.g 146 rfl) (evs_cons rfl (rfl))) (.cons (.one (.d _)) (.cons (.one (.d _)) .nil)) (ok_spec_l04Turn ((vN h (wN b 48) i).getD 4 0) 11 (by first | omega | decide)) (At.freshRows A rfl))) ?_
            refine .cons (fun E A => OpStep.plain rfl (Step.bd (r := .int .i64 (bxor (turnW ((vN h (wN b 48) i).getD 4 0) 6) (turnW ((vN h (wN b 48) i).getD 4 0) 11))) 148 (A.g 145 rfl) (A.g 147 rfl) (Bin.xor (k := .i64) (a := (turnW ((vN h (wN b 48) i).getD 4 0) 6)) (b := (turnW ((vN h (wN b 48) i).getD 4 0) 11)) (rfl)))) ?_
            refine .cons (fun E A => A.mv 17 149) ?_
            refine .cons (fun E A => OpStep.plain rfl (Step.cd (xs := [.tmp 149, .const (.int .i64 25)]) (ps := [(pI ((vN h (wN b 48) i).getD 4 0)), (pI 25)]) (g := .func 118) false 150 (evs_cons (A.g 149 rfl) (evs_cons rfl (rfl))) (.cons (.one (.d _)) (.cons (.one (.d _)) .nil)) (ok_spec_l04Turn ((vN h (wN b 48) i).getD 4 0) 25 (by first | omega | decide)) (At.freshRows A rfl))) ?_
            refine .cons (fun E A => OpStep.plain rfl (Step.bd (r := .int .i64 (bxor (bxor (turnW ((vN h (wN b 48) i).getD 4 0) 6) (turnW ((vN h (wN b 48) i).getD 4 0) 11)) (turnW ((vN h (wN b 48) i).getD 4 0) 25))) 151 (A.g 148 rfl) (A.g 150 rfl) (Bin.xor (k := .i64) (a := (bxor (turnW ((vN h (wN b 48) i).getD 4 0) 6) (turnW ((vN h (wN b 48) i).getD 4 0) 11))) (b := (turnW ((vN h (wN b 48) i).getD 4 0) 25)) (rfl)))) ?_
            refine .cons (fun E A => OpStep.plain rfl (Step.bd (r := .int .i64 (wadd ((vN h (wN b 48) i).getD 7 0) (bxor (bxor (turnW ((vN h (wN b 48) i).getD 4 0) 6) (turnW ((vN h (wN b 48) i).getD 4 0) 11)) (turnW ((vN h (wN b 48) i).getD 4 0) 25)))) 152 (A.g 143 rfl) (A.g 151 rfl) (Bin.add (k := .i64) (a := ((vN h (wN b 48) i).getD 7 0)) (b := (bxor (bxor (turnW ((vN h (wN b 48) i).getD 4 0) 6) (turnW ((vN h (wN b 48) i).getD 4 0) 11)) (turnW ((vN h (wN b 48) i).getD 4 0) 25))) (rfl)))) ?_
            refine .cons (fun E A => A.mv 17 153) ?_
            refine .cons (fun E A => A.mv 15 154) ?_
            refine .cons (fun E A => OpStep.plain rfl (Step.index (e := 3) (z := 1) (i := 5) (t := 155) rfl rfl (by exact lt_ok rfl) (by kernel_rfl) (A.g 154 rfl) rfl rfl (lt_ok rfl) rfl (by first | omega | (simp; omega) | (simp [w16_len, wN_len]; omega)) (by simp only [D.size]; first | omega | (simp; omega) | (simp [w16_len, wN_len]; omega)))) ?_
            refine .cons (fun E A => OpStep.plain rfl (Step.load (e := (.int .i64 ((vN h (wN b 48) i).getD 5 0))) (t := 156) rfl rfl (by exact lt_ok rfl) (by kernel_rfl) (A.g 155 rfl) rfl)) ?_
            refine .cons (fun E A => OpStep.plain rfl (Step.bd (r := .int .i64 (band ((vN h (wN b 48) i).getD 4 0) ((vN h (wN b 48) i).getD 5 0))) 157 (A.g 153 rfl) (A.g 156 rfl) (Bin.and (k := .i64) (a := ((vN h (wN b 48) i).getD 4 0)) (b := ((vN h (wN b 48) i).getD 5 0)) (rfl)))) ?_
            refine .cons (fun E A => A.mv 17 158) ?_
            refine .cons (fun E A => OpStep.plain rfl (Step.bd (r := .int .i64 (bxor 4294967295 ((vN h (wN b 48) i).getD 4 0))) 159 rfl (A.g 158 rfl) (Bin.xor (k := .i64) (a := 4294967295) (b := ((vN h (wN b 48) i).getD 4 0)) (rfl)))) ?_
            refine .cons (fun E A => A.mv 15 160) ?_
            refine .cons (fun E A => OpStep.plain rfl (Step.index (e := 3) (z := 1) (i := 6) (t := 161) rfl rfl (by exact lt_ok rfl) (by kernel_rfl) (A.g 160 rfl) rfl rfl (lt_ok rfl) rfl (by first | omega | (simp; omega) | (simp [w16_len, wN_len]; omega)) (by simp only [D.size]; first | omega | (simp; omega) | (simp [w16_len, wN_len]; omega)))) ?_
            refine .cons (fun E A => OpStep.plain rfl (Step.load (e := (.int .i64 ((vN h (wN b 48) i).getD 6 0))) (t := 162) rfl rfl (by exact lt_ok rfl) (by kernel_rfl) (A.g 161 rfl) rfl)) ?_
            refine .cons (fun E A => OpStep.plain rfl (Step.bd (r := .int .i64 (band (bxor 4294967295 ((vN h (wN b 48) i).getD 4 0)) ((vN h (wN b 48) i).getD 6 0))) 163 (A.g 159 rfl) (A.g 162 rfl) (Bin.and (k := .i64) (a := (bxor 4294967295 ((vN h (wN b 48) i).getD 4 0))) (b := ((vN h (wN b 48) i).getD 6 0)) (rfl)))) ?_
            refine .cons (fun E A => OpStep.plain rfl (Step.bd (r := .int .i64 (bxor (band ((vN h (wN b 48) i).getD 4 0) ((vN h (wN b 48) i).getD 5 0)) (band (bxor 4294967295 ((vN h (wN b 48) i).getD 4 0)) ((vN h (wN b 48) i).getD 6 0)))) 164 (A.g 157 rfl) (A.g 163 rfl) (Bin.xor (k := .i64) (a := (band ((vN h (wN b 48) i).getD 4 0) ((vN h (wN b 48) i).getD 5 0))) (b := (band (bxor 4294967295 ((vN h (wN b 48) i).getD 4 0)) ((vN h (wN b 48) i).getD 6 0))) (rfl)))) ?_
            refine .cons (fun E A => OpStep.plain rfl (Step.bd (r := .int .i64 (wadd (wadd ((vN h (wN b 48) i).getD 7 0) (bxor (bxor (turnW ((vN h (wN b 48) i).getD 4 0) 6) (turnW ((vN h (wN b 48) i).getD 4 0) 11)) (turnW ((vN h (wN b 48) i).getD 4 0) 25))) (bxor (band ((vN h (wN b 48) i).getD 4 0) ((vN h (wN b 48) i).getD 5 0)) (band (bxor 4294967295 ((vN h (wN b 48) i).getD 4 0)) ((vN h (wN b 48) i).getD 6 0))))) 165 (A.g 152 rfl) (A.g 164 rfl) (Bin.add (k := .i64) (a := (wadd ((vN h (wN b 48) i).getD 7 0) (bxor (bxor (turnW ((vN h (wN b 48) i).getD 4 0) 6) (turnW ((vN h (wN b 48) i).getD 4 0) 11)) (turnW ((vN h (wN b 48) i).getD 4 0) 25)))) (b := (bxor (band ((vN h (wN b 48) i).getD 4 0) ((vN h (wN b 48) i).getD 5 0)) (band (bxor 4294967295 ((vN h (wN b 48) i).getD 4 0)) ((vN h (wN b 48) i).getD 6 0)))) (rfl)))) ?_
            refine .cons (fun E A => A.mv 14 166) ?_
            refine .cons (fun E A => A.mv 16 167) ?_
            refine .cons (fun E A => OpStep.plain rfl (Step.index_row (e := 3) (z := 1) (i := (i : Int)) (t := 168) rfl rfl (by exact lt_ok rfl) (by kernel_rfl) (A.g 166 rfl) (by exact (A.row 1127 (by kernel_rfl)).trans rfl) rfl rfl (lt_ok rfl) (A.g 167 rfl) (by first | omega | (simp; omega) | (simp [w16_len, wN_len]; omega)) (by simp only [D.at_, D.cell, D.size]; first | omega | (simp; omega) | (simp [w16_len, wN_len]; omega)))) ?_
            refine .cons (fun E A => OpStep.plain rfl (Step.load_row (c := cI (shaK.getD i 0)) (t := 169) rfl rfl (by exact lt_ok rfl) (by kernel_rfl) (A.g 168 rfl) (by exact (A.row 1127 (by kernel_rfl)).trans rfl) rfl)) ?_
            refine .cons (fun E A => OpStep.plain rfl (Step.bd (r := .int .i64 (wadd (wadd (wadd ((vN h (wN b 48) i).getD 7 0) (bxor (bxor (turnW ((vN h (wN b 48) i).getD 4 0) 6) (turnW ((vN h (wN b 48) i).getD 4 0) 11)) (turnW ((vN h (wN b 48) i).getD 4 0) 25))) (bxor (band ((vN h (wN b 48) i).getD 4 0) ((vN h (wN b 48) i).getD 5 0)) (band (bxor 4294967295 ((vN h (wN b 48) i).getD 4 0)) ((vN h (wN b 48) i).getD 6 0)))) (shaK.getD i 0))) 170 (A.g 165 rfl) (A.g 169 rfl) (Bin.add (k := .i64) (a := (wadd (wadd ((vN h (wN b 48) i).getD 7 0) (bxor (bxor (turnW ((vN h (wN b 48) i).getD 4 0) 6) (turnW ((vN h (wN b 48) i).getD 4 0) 11)) (turnW ((vN h (wN b 48) i).getD 4 0) 25))) (bxor (band ((vN h (wN b 48) i).getD 4 0) ((vN h (wN b 48) i).getD 5 0)) (band (bxor 4294967295 ((vN h (wN b 48) i).getD 4 0)) ((vN h (wN b 48) i).getD 6 0))))) (b := (shaK.getD i 0)) (rfl)))) ?_
            refine .cons (fun E A => A.mv 7 171) ?_
            refine .cons (fun E A => A.mv 16 172) ?_
            refine .cons (fun E A => OpStep.plain rfl (Step.index_row (e := 3) (z := 1) (i := (i : Int)) (t := 173) rfl rfl (by exact lt_ok rfl) (by kernel_rfl) (A.g 171 rfl) (by exact (A.row 41 (by kernel_rfl)).trans rfl) rfl rfl (lt_ok rfl) (A.g 172 rfl) (by first | omega | (simp; omega) | (simp [w16_len, wN_len]; omega)) (by simp only [D.at_, D.cell, D.size]; first | omega | (simp; omega) | (simp [w16_len, wN_len]; omega)))) ?_
            refine .cons (fun E A => OpStep.plain rfl (Step.load_row (c := cI ((wN b 48).getD i 0)) (t := 174) rfl rfl (by exact lt_ok rfl) (by kernel_rfl) (A.g 173 rfl) (by exact (A.row 41 (by kernel_rfl)).trans rfl) rfl)) ?_
            refine .cons (fun E A => OpStep.plain rfl (Step.bd (r := .int .i64 (wadd (wadd (wadd (wadd ((vN h (wN b 48) i).getD 7 0) (bxor (bxor (turnW ((vN h (wN b 48) i).getD 4 0) 6) (turnW ((vN h (wN b 48) i).getD 4 0) 11)) (turnW ((vN h (wN b 48) i).getD 4 0) 25))) (bxor (band ((vN h (wN b 48) i).getD 4 0) ((vN h (wN b 48) i).getD 5 0)) (band (bxor 4294967295 ((vN h (wN b 48) i).getD 4 0)) ((vN h (wN b 48) i).getD 6 0)))) (shaK.getD i 0)) ((wN b 48).getD i 0))) 175 (A.g 170 rfl) (A.g 174 rfl) (Bin.add (k := .i64) (a := (wadd (wadd (wadd ((vN h (wN b 48) i).getD 7 0) (bxor (bxor (turnW ((vN h (wN b 48) i).getD 4 0) 6) (turnW ((vN h (wN b 48) i).getD 4 0) 11)) (turnW ((vN h (wN b 48) i).getD 4 0) 25))) (bxor (band ((vN h (wN b 48) i).getD 4 0) ((vN h (wN b 48) i).getD 5 0)) (band (bxor 4294967295 ((vN h (wN b 48) i).getD 4 0)) ((vN h (wN b 48) i).getD 6 0)))) (shaK.getD i 0))) (b := ((wN b 48).getD i 0)) (rfl)))) ?_
            refine .cons (fun E A => A.as 175 19) ?_
            exact .nil _ _
           refine TL.nil ?_
           refine T.seq ?_
           refine T.draw [⟨176, (pI ((vN h (wN b 48) i).getD 0 0)), []⟩, ⟨177, (pI (turnW ((vN h (wN b 48) i).getD 0 0) 2)), []⟩, ⟨178, (pI ((vN h (wN b 48) i).getD 0 0)), []⟩, ⟨179, (pI (turnW ((vN h (wN b 48) i).getD 0 0) 13)), []⟩, ⟨180, (pI (bxor (turnW ((vN h (wN b 48) i).getD 0 0) 2) (turnW ((vN h (wN b 48) i).getD 0 0) 13))), []⟩, ⟨181, (pI ((vN h (wN b 48) i).getD 0 0)), []⟩, ⟨182, (pI (turnW ((vN h (wN b 48) i).getD 0 0) 22)), []⟩, ⟨183, (pI (bxor (bxor (turnW ((vN h (wN b 48) i).getD 0 0) 2) (turnW ((vN h (wN b 48) i).getD 0 0) 13)) (turnW ((vN h (wN b 48) i).getD 0 0) 22))), []⟩, ⟨184, (pI ((vN h (wN b 48) i).getD 0 0)), []⟩, ⟨185, (.one (.d (.ints .i64 (vN h (wN b 48) i)))), []⟩, ⟨186, (.one (.eptr (.ints .i64 (vN h (wN b 48) i)) 1 0)), []⟩, ⟨187, (pI ((vN h (wN b 48) i).getD 1 0)), []⟩, ⟨188, (pI (band ((vN h (wN b 48) i).getD 0 0) ((vN h (wN b 48) i).getD 1 0))), []⟩, ⟨189, (pI ((vN h (wN b 48) i).getD 0 0)), []⟩, ⟨190, (.one (.d (.ints .i64 (vN h (wN b 48) i)))), []⟩, ⟨191, (.one (.eptr (.ints .i64 (vN h (wN b 48) i)) 2 0)), []⟩, ⟨192, (pI ((vN h (wN b 48) i).getD 2 0)), []⟩, ⟨193, (pI (band ((vN h (wN b 48) i).getD 0 0) ((vN h (wN b 48) i).getD 2 0))), []⟩, ⟨194, (pI (bxor (band ((vN h (wN b 48) i).getD 0 0) ((vN h (wN b 48) i).getD 1 0)) (band ((vN h (wN b 48) i).getD 0 0) ((vN h (wN b 48) i).getD 2 0)))), []⟩, ⟨195, (.one (.d (.ints .i64 (vN h (wN b 48) i)))), []⟩, ⟨196, (.one (.eptr (.ints .i64 (vN h (wN b 48) i)) 1 0)), []⟩, ⟨197, (pI ((vN h (wN b 48) i).getD 1 0)), []⟩, ⟨198, (.one (.d (.ints .i64 (vN h (wN b 48) i)))), []⟩, ⟨199, (.one (.eptr (.ints .i64 (vN h (wN b 48) i)) 2 0)), []⟩, ⟨200, (pI ((vN h (wN b 48) i).getD 2 0)), []⟩, ⟨201, (pI (band ((vN h (wN b 48) i).getD 1 0) ((vN h (wN b 48) i).getD 2 0))), []⟩, ⟨202, (pI (bxor (bxor (band ((vN h (wN b 48) i).getD 0 0) ((vN h (wN b 48) i).getD 1 0)) (band ((vN h (wN b 48) i).getD 0 0) ((vN h (wN b 48) i).getD 2 0))) (band ((vN h (wN b 48) i).getD 1 0) ((vN h (wN b 48) i).getD 2 0)))), []⟩, ⟨203, (pI (wadd (bxor (bxor (turnW ((vN h (wN b 48) i).getD 0 0) 2) (turnW ((vN h (wN b 48) i).getD 0 0) 13)) (turnW ((vN h (wN b 48) i).getD 0 0) 22)) (bxor (bxor (band ((vN h (wN b 48) i).getD 0 0) ((vN h (wN b 48) i).getD 1 0)) (band ((vN h (wN b 48) i).getD 0 0) ((vN h (wN b 48) i).getD 2 0))) (band ((vN h (wN b 48) i).getD 1 0) ((vN h (wN b 48) i).getD 2 0))))), []⟩, ⟨20, (pI (wadd (bxor (bxor (turnW ((vN h (wN b 48) i).getD 0 0) 2) (turnW ((vN h (wN b 48) i).getD 0 0) 13)) (turnW ((vN h (wN b 48) i).getD 0 0) 22)) (bxor (bxor (band ((vN h (wN b 48) i).getD 0 0) ((vN h (wN b 48) i).getD 1 0)) (band ((vN h (wN b 48) i).getD 0 0) ((vN h (wN b 48) i).getD 2 0))) (band ((vN h (wN b 48) i).getD 1 0) ((vN h (wN b 48) i).getD 2 0))))), []⟩] (by kernel_rfl) (by kernel_rfl) ?_ ?_
           ·
            refine .cons (fun E A => A.mv 18 176) ?_
            refine .cons (fun E A => OpStep.plain rfl (Step.cd (xs := [.tmp 176, .const (.int .i64 2)]) (ps := [(pI ((vN h (wN b 48) i).getD 0 0)), (pI 2)]) (g := .func 118) false 177 (evs_cons (A.g 176 rfl) (evs_cons rfl (rfl))) (.cons (.one (.d _)) (.cons (.one (.d _)) .nil)) (ok_spec_l04Turn ((vN h (wN b 48) i).getD 0 0) 2 (by first | omega | decide)) (At.freshRows A rfl))) ?_
            refine .cons (fun E A => A.mv 18 178) ?_
            refine .cons (fun E A => OpStep.plain rfl (Step.cd (xs := [.tmp 178, .const (.int .i64 13)]) (ps := [(pI ((vN h (wN b 48) i).getD 0 0)), (pI 13)]) (g := .func 118) false 179 (evs_cons (A.g 178 rfl) (evs_cons rfl (rfl))) (.cons (.one (.d _)) (.cons (.one (.d _)) .nil)) (ok_spec_l04Turn ((vN h (wN b 48) i).getD 0 0) 13 (by first | omega | decide)) (At.freshRows A rfl))) ?_
            refine .cons (fun E A => OpStep.plain rfl (Step.bd (r := .int .i64 (bxor (turnW ((vN h (wN b 48) i).getD 0 0) 2) (turnW ((vN h (wN b 48) i).getD 0 0) 13))) 180 (A.g 177 rfl) (A.g 179 rfl) (Bin.xor (k := .i64) (a := (turnW ((vN h (wN b 48) i).getD 0 0) 2)) (b := (turnW ((vN h (wN b 48) i).getD 0 0) 13)) (rfl)))) ?_
            refine .cons (fun E A => A.mv 18 181) ?_
            refine .cons (fun E A => OpStep.plain rfl (Step.cd (xs := [.tmp 181, .const (.int .i64 22)]) (ps := [(pI ((vN h (wN b 48) i).getD 0 0)), (pI 22)]) (g := .func 118) false 182 (evs_cons (A.g 181 rfl) (evs_cons rfl (rfl))) (.cons (.one (.d _)) (.cons (.one (.d _)) .nil)) (ok_spec_l04Turn ((vN h (wN b 48) i).getD 0 0) 22 (by first | omega | decide)) (At.freshRows A rfl))) ?_
            refine .cons (fun E A => OpStep.plain rfl (Step.bd (r := .int .i64 (bxor (bxor (turnW ((vN h (wN b 48) i).getD 0 0) 2) (turnW ((vN h (wN b 48) i).getD 0 0) 13)) (turnW ((vN h (wN b 48) i).getD 0 0) 22))) 183 (A.g 180 rfl) (A.g 182 rfl) (Bin.xor (k := .i64) (a := (bxor (turnW ((vN h (wN b 48) i).getD 0 0) 2) (turnW ((vN h (wN b 48) i).getD 0 0) 13))) (b := (turnW ((vN h (wN b 48) i).getD 0 0) 22)) (rfl)))) ?_
            refine .cons (fun E A => A.mv 18 184) ?_
            refine .cons (fun E A => A.mv 15 185) ?_
            refine .cons (fun E A => OpStep.plain rfl (Step.index (e := 3) (z := 1) (i := 1) (t := 186) rfl rfl (by exact lt_ok rfl) (by kernel_rfl) (A.g 185 rfl) rfl rfl (lt_ok rfl) rfl (by first | omega | (simp; omega) | (simp [w16_len, wN_len]; omega)) (by simp only [D.size]; first | omega | (simp; omega) | (simp [w16_len, wN_len]; omega)))) ?_
            refine .cons (fun E A => OpStep.plain rfl (Step.load (e := (.int .i64 ((vN h (wN b 48) i).getD 1 0))) (t := 187) rfl rfl (by exact lt_ok rfl) (by kernel_rfl) (A.g 186 rfl) rfl)) ?_
            refine .cons (fun E A => OpStep.plain rfl (Step.bd (r := .int .i64 (band ((vN h (wN b 48) i).getD 0 0) ((vN h (wN b 48) i).getD 1 0))) 188 (A.g 184 rfl) (A.g 187 rfl) (Bin.and (k := .i64) (a := ((vN h (wN b 48) i).getD 0 0)) (b := ((vN h (wN b 48) i).getD 1 0)) (rfl)))) ?_
            refine .cons (fun E A => A.mv 18 189) ?_
            refine .cons (fun E A => A.mv 15 190) ?_
            refine .cons (fun E A => OpStep.plain rfl (Step.index (e := 3) (z := 1) (i := 2) (t := 191) rfl rfl (by exact lt_ok rfl) (by kernel_rfl) (A.g 190 rfl) rfl rfl (lt_ok rfl) rfl (by first | omega | (simp; omega) | (simp [w16_len, wN_len]; omega)) (by simp only [D.size]; first | omega | (simp; omega) | (simp [w16_len, wN_len]; omega)))) ?_
            refine .cons (fun E A => OpStep.plain rfl (Step.load (e := (.int .i64 ((vN h (wN b 48) i).getD 2 0))) (t := 192) rfl rfl (by exact lt_ok rfl) (by kernel_rfl) (A.g 191 rfl) rfl)) ?_
            refine .cons (fun E A => OpStep.plain rfl (Step.bd (r := .int .i64 (band ((vN h (wN b 48) i).getD 0 0) ((vN h (wN b 48) i).getD 2 0))) 193 (A.g 189 rfl) (A.g 192 rfl) (Bin.and (k := .i64) (a := ((vN h (wN b 48) i).getD 0 0)) (b := ((vN h (wN b 48) i).getD 2 0)) (rfl)))) ?_
            refine .cons (fun E A => OpStep.plain rfl (Step.bd (r := .int .i64 (bxor (band ((vN h (wN b 48) i).getD 0 0) ((vN h (wN b 48) i).getD 1 0)) (band ((vN h (wN b 48) i).getD 0 0) ((vN h (wN b 48) i).getD 2 0)))) 194 (A.g 188 rfl) (A.g 193 rfl) (Bin.xor (k := .i64) (a := (band ((vN h (wN b 48) i).getD 0 0) ((vN h (wN b 48) i).getD 1 0))) (b := (band ((vN h (wN b 48) i).getD 0 0) ((vN h (wN b 48) i).getD 2 0))) (rfl)))) ?_
            refine .cons (fun E A => A.mv 15 195) ?_
            refine .cons (fun E A => OpStep.plain rfl (Step.index (e := 3) (z := 1) (i := 1) (t := 196) rfl rfl (by exact lt_ok rfl) (by kernel_rfl) (A.g 195 rfl) rfl rfl (lt_ok rfl) rfl (by first | omega | (simp; omega) | (simp [w16_len, wN_len]; omega)) (by simp only [D.size]; first | omega | (simp; omega) | (simp [w16_len, wN_len]; omega)))) ?_
            refine .cons (fun E A => OpStep.plain rfl (Step.load (e := (.int .i64 ((vN h (wN b 48) i).getD 1 0))) (t := 197) rfl rfl (by exact lt_ok rfl) (by kernel_rfl) (A.g 196 rfl) rfl)) ?_
            refine .cons (fun E A => A.mv 15 198) ?_
            refine .cons (fun E A => OpStep.plain rfl (Step.index (e := 3) (z := 1) (i := 2) (t := 199) rfl rfl (by exact lt_ok rfl) (by kernel_rfl) (A.g 198 rfl) rfl rfl (lt_ok rfl) rfl (by first | omega | (simp; omega) | (simp [w16_len, wN_len]; omega)) (by simp only [D.size]; first | omega | (simp; omega) | (simp [w16_len, wN_len]; omega)))) ?_
            refine .cons (fun E A => OpStep.plain rfl (Step.load (e := (.int .i64 ((vN h (wN b 48) i).getD 2 0))) (t := 200) rfl rfl (by exact lt_ok rfl) (by kernel_rfl) (A.g 199 rfl) rfl)) ?_
            refine .cons (fun E A => OpStep.plain rfl (Step.bd (r := .int .i64 (band ((vN h (wN b 48) i).getD 1 0) ((vN h (wN b 48) i).getD 2 0))) 201 (A.g 197 rfl) (A.g 200 rfl) (Bin.and (k := .i64) (a := ((vN h (wN b 48) i).getD 1 0)) (b := ((vN h (wN b 48) i).getD 2 0)) (rfl)))) ?_
            refine .cons (fun E A => OpStep.plain rfl (Step.bd (r := .int .i64 (bxor (bxor (band ((vN h (wN b 48) i).getD 0 0) ((vN h (wN b 48) i).getD 1 0)) (band ((vN h (wN b 48) i).getD 0 0) ((vN h (wN b 48) i).getD 2 0))) (band ((vN h (wN b 48) i).getD 1 0) ((vN h (wN b 48) i).getD 2 0)))) 202 (A.g 194 rfl) (A.g 201 rfl) (Bin.xor (k := .i64) (a := (bxor (band ((vN h (wN b 48) i).getD 0 0) ((vN h (wN b 48) i).getD 1 0)) (band ((vN h (wN b 48) i).getD 0 0) ((vN h (wN b 48) i).getD 2 0)))) (b := (band ((vN h (wN b 48) i).getD 1 0) ((vN h (wN b 48) i).getD 2 0))) (rfl)))) ?_
            refine .cons (fun E A => OpStep.plain rfl (Step.bd (r := .int .i64 (wadd (bxor (bxor (turnW ((vN h (wN b 48) i).getD 0 0) 2) (turnW ((vN h (wN b 48) i).getD 0 0) 13)) (turnW ((vN h (wN b 48) i).getD 0 0) 22)) (bxor (bxor (band ((vN h (wN b 48) i).getD 0 0) ((vN h (wN b 48) i).getD 1 0)) (band ((vN h (wN b 48) i).getD 0 0) ((vN h (wN b 48) i).getD 2 0))) (band ((vN h (wN b 48) i).getD 1 0) ((vN h (wN b 48) i).getD 2 0))))) 203 (A.g 183 rfl) (A.g 202 rfl) (Bin.add (k := .i64) (a := (bxor (bxor (turnW ((vN h (wN b 48) i).getD 0 0) 2) (turnW ((vN h (wN b 48) i).getD 0 0) 13)) (turnW ((vN h (wN b 48) i).getD 0 0) 22))) (b := (bxor (bxor (band ((vN h (wN b 48) i).getD 0 0) ((vN h (wN b 48) i).getD 1 0)) (band ((vN h (wN b 48) i).getD 0 0) ((vN h (wN b 48) i).getD 2 0))) (band ((vN h (wN b 48) i).getD 1 0) ((vN h (wN b 48) i).getD 2 0)))) (rfl)))) ?_
            refine .cons (fun E A => A.as 203 20) ?_
            exact .nil _ _
           refine TL.nil ?_
           refine T.weaken (E' := { tm := [(0, (.one (.d (.ints .i64 h)))), (7, (.one (.row 41 []))), (14, (.one (.row 1127 []))), (16, (pI (i : Int))), (15, (.one (.d (.ints .i64 (vN h (wN b 48) i))))), (19, (pI (wadd (wadd (wadd (wadd ((vN h (wN b 48) i).getD 7 0) (bxor (bxor (turnW ((vN h (wN b 48) i).getD 4 0) 6) (turnW ((vN h (wN b 48) i).getD 4 0) 11)) (turnW ((vN h (wN b 48) i).getD 4 0) 25))) (bxor (band ((vN h (wN b 48) i).getD 4 0) ((vN h (wN b 48) i).getD 5 0)) (band (bxor 4294967295 ((vN h (wN b 48) i).getD 4 0)) ((vN h (wN b 48) i).getD 6 0)))) (shaK.getD i 0)) ((wN b 48).getD i 0)))), (20, (pI (wadd (bxor (bxor (turnW ((vN h (wN b 48) i).getD 0 0) 2) (turnW ((vN h (wN b 48) i).getD 0 0) 13)) (turnW ((vN h (wN b 48) i).getD 0 0) 22)) (bxor (bxor (band ((vN h (wN b 48) i).getD 0 0) ((vN h (wN b 48) i).getD 1 0)) (band ((vN h (wN b 48) i).getD 0 0) ((vN h (wN b 48) i).getD 2 0))) (band ((vN h (wN b 48) i).getD 1 0) ((vN h (wN b 48) i).getD 2 0))))))], rows := [(41, (3, (.ints .i64 (wN b 48)))), (1127, (3, (.ints .i64 shaK)))], boxes := [] }) (Env.le_mk ⟨by kernel_rfl, by kernel_rfl, by kernel_rfl, by kernel_rfl, by kernel_rfl, by kernel_rfl, by kernel_rfl, trivial⟩ ⟨by kernel_rfl, by kernel_rfl, trivial⟩ trivial) ?_
           refine T.draw [⟨204, (pI (wadd (wadd (wadd (wadd ((vN h (wN b 48) i).getD 7 0) (bxor (bxor (turnW ((vN h (wN b 48) i).getD 4 0) 6) (turnW ((vN h (wN b 48) i).getD 4 0) 11)) (turnW ((vN h (wN b 48) i).getD 4 0) 25))) (bxor (band ((vN h (wN b 48) i).getD 4 0) ((vN h (wN b 48) i).getD 5 0)) (band (bxor 4294967295 ((vN h (wN b 48) i).getD 4 0)) ((vN h (wN b 48) i).getD 6 0)))) (shaK.getD i 0)) ((wN b 48).getD i 0))), []⟩, ⟨205, (pI (wadd (bxor (bxor (turnW ((vN h (wN b 48) i).getD 0 0) 2) (turnW ((vN h (wN b 48) i).getD 0 0) 13)) (turnW ((vN h (wN b 48) i).getD 0 0) 22)) (bxor (bxor (band ((vN h (wN b 48) i).getD 0 0) ((vN h (wN b 48) i).getD 1 0)) (band ((vN h (wN b 48) i).getD 0 0) ((vN h (wN b 48) i).getD 2 0))) (band ((vN h (wN b 48) i).getD 1 0) ((vN h (wN b 48) i).getD 2 0))))), []⟩, ⟨206, (pI (wadd (wadd (wadd (wadd (wadd ((vN h (wN b 48) i).getD 7 0) (bxor (bxor (turnW ((vN h (wN b 48) i).getD 4 0) 6) (turnW ((vN h (wN b 48) i).getD 4 0) 11)) (turnW ((vN h (wN b 48) i).getD 4 0) 25))) (bxor (band ((vN h (wN b 48) i).getD 4 0) ((vN h (wN b 48) i).getD 5 0)) (band (bxor 4294967295 ((vN h (wN b 48) i).getD 4 0)) ((vN h (wN b 48) i).getD 6 0)))) (shaK.getD i 0)) ((wN b 48).getD i 0)) (wadd (bxor (bxor (turnW ((vN h (wN b 48) i).getD 0 0) 2) (turnW ((vN h (wN b 48) i).getD 0 0) 13)) (turnW ((vN h (wN b 48) i).getD 0 0) 22)) (bxor (bxor (band ((vN h (wN b 48) i).getD 0 0) ((vN h (wN b 48) i).getD 1 0)) (band ((vN h (wN b 48) i).getD 0 0) ((vN h (wN b 48) i).getD 2 0))) (band ((vN h (wN b 48) i).getD 1 0) ((vN h (wN b 48) i).getD 2 0)))))), []⟩, ⟨207, (pI (band (wadd (wadd (wadd (wadd (wadd ((vN h (wN b 48) i).getD 7 0) (bxor (bxor (turnW ((vN h (wN b 48) i).getD 4 0) 6) (turnW ((vN h (wN b 48) i).getD 4 0) 11)) (turnW ((vN h (wN b 48) i).getD 4 0) 25))) (bxor (band ((vN h (wN b 48) i).getD 4 0) ((vN h (wN b 48) i).getD 5 0)) (band (bxor 4294967295 ((vN h (wN b 48) i).getD 4 0)) ((vN h (wN b 48) i).getD 6 0)))) (shaK.getD i 0)) ((wN b 48).getD i 0)) (wadd (bxor (bxor (turnW ((vN h (wN b 48) i).getD 0 0) 2) (turnW ((vN h (wN b 48) i).getD 0 0) 13)) (turnW ((vN h (wN b 48) i).getD 0 0) 22)) (bxor (bxor (band ((vN h (wN b 48) i).getD 0 0) ((vN h (wN b 48) i).getD 1 0)) (band ((vN h (wN b 48) i).getD 0 0) ((vN h (wN b 48) i).getD 2 0))) (band ((vN h (wN b 48) i).getD 1 0) ((vN h (wN b 48) i).getD 2 0))))) 4294967295)), []⟩, ⟨208, (.one (.d (.ints .i64 (vN h (wN b 48) i)))), []⟩, ⟨209, (.one (.eptr (.ints .i64 (vN h (wN b 48) i)) 0 0)), []⟩, ⟨210, (pI ((vN h (wN b 48) i).getD 0 0)), []⟩, ⟨211, (.one (.d (.ints .i64 (vN h (wN b 48) i)))), []⟩, ⟨212, (.one (.eptr (.ints .i64 (vN h (wN b 48) i)) 1 0)), []⟩, ⟨213, (pI ((vN h (wN b 48) i).getD 1 0)), []⟩, ⟨214, (.one (.d (.ints .i64 (vN h (wN b 48) i)))), []⟩, ⟨215, (.one (.eptr (.ints .i64 (vN h (wN b 48) i)) 2 0)), []⟩, ⟨216, (pI ((vN h (wN b 48) i).getD 2 0)), []⟩, ⟨217, (.one (.d (.ints .i64 (vN h (wN b 48) i)))), []⟩, ⟨218, (.one (.eptr (.ints .i64 (vN h (wN b 48) i)) 3 0)), []⟩, ⟨219, (pI ((vN h (wN b 48) i).getD 3 0)), []⟩, ⟨220, (pI (wadd (wadd (wadd (wadd ((vN h (wN b 48) i).getD 7 0) (bxor (bxor (turnW ((vN h (wN b 48) i).getD 4 0) 6) (turnW ((vN h (wN b 48) i).getD 4 0) 11)) (turnW ((vN h (wN b 48) i).getD 4 0) 25))) (bxor (band ((vN h (wN b 48) i).getD 4 0) ((vN h (wN b 48) i).getD 5 0)) (band (bxor 4294967295 ((vN h (wN b 48) i).getD 4 0)) ((vN h (wN b 48) i).getD 6 0)))) (shaK.getD i 0)) ((wN b 48).getD i 0))), []⟩, ⟨221, (pI (wadd ((vN h (wN b 48) i).getD 3 0) (wadd (wadd (wadd (wadd ((vN h (wN b 48) i).getD 7 0) (bxor (bxor (turnW ((vN h (wN b 48) i).getD 4 0) 6) (turnW ((vN h (wN b 48) i).getD 4 0) 11)) (turnW ((vN h (wN b 48) i).getD 4 0) 25))) (bxor (band ((vN h (wN b 48) i).getD 4 0) ((vN h (wN b 48) i).getD 5 0)) (band (bxor 4294967295 ((vN h (wN b 48) i).getD 4 0)) ((vN h (wN b 48) i).getD 6 0)))) (shaK.getD i 0)) ((wN b 48).getD i 0)))), []⟩, ⟨222, (pI (band (wadd ((vN h (wN b 48) i).getD 3 0) (wadd (wadd (wadd (wadd ((vN h (wN b 48) i).getD 7 0) (bxor (bxor (turnW ((vN h (wN b 48) i).getD 4 0) 6) (turnW ((vN h (wN b 48) i).getD 4 0) 11)) (turnW ((vN h (wN b 48) i).getD 4 0) 25))) (bxor (band ((vN h (wN b 48) i).getD 4 0) ((vN h (wN b 48) i).getD 5 0)) (band (bxor 4294967295 ((vN h (wN b 48) i).getD 4 0)) ((vN h (wN b 48) i).getD 6 0)))) (shaK.getD i 0)) ((wN b 48).getD i 0))) 4294967295)), []⟩, ⟨223, (.one (.d (.ints .i64 (vN h (wN b 48) i)))), []⟩, ⟨224, (.one (.eptr (.ints .i64 (vN h (wN b 48) i)) 4 0)), []⟩, ⟨225, (pI ((vN h (wN b 48) i).getD 4 0)), []⟩, ⟨226, (.one (.d (.ints .i64 (vN h (wN b 48) i)))), []⟩, ⟨227, (.one (.eptr (.ints .i64 (vN h (wN b 48) i)) 5 0)), []⟩, ⟨228, (pI ((vN h (wN b 48) i).getD 5 0)), []⟩, ⟨229, (.one (.d (.ints .i64 (vN h (wN b 48) i)))), []⟩, ⟨230, (.one (.eptr (.ints .i64 (vN h (wN b 48) i)) 6 0)), []⟩, ⟨231, (pI ((vN h (wN b 48) i).getD 6 0)), []⟩, ⟨232, (.one (.d (.ints .i64 [band (wadd (wadd (wadd (wadd (wadd ((vN h (wN b 48) i).getD 7 0) (bxor (bxor (turnW ((vN h (wN b 48) i).getD 4 0) 6) (turnW ((vN h (wN b 48) i).getD 4 0) 11)) (turnW ((vN h (wN b 48) i).getD 4 0) 25))) (bxor (band ((vN h (wN b 48) i).getD 4 0) ((vN h (wN b 48) i).getD 5 0)) (band (bxor 4294967295 ((vN h (wN b 48) i).getD 4 0)) ((vN h (wN b 48) i).getD 6 0)))) (shaK.getD i 0)) ((wN b 48).getD i 0)) (wadd (bxor (bxor (turnW ((vN h (wN b 48) i).getD 0 0) 2) (turnW ((vN h (wN b 48) i).getD 0 0) 13)) (turnW ((vN h (wN b 48) i).getD 0 0) 22)) (bxor (bxor (band ((vN h (wN b 48) i).getD 0 0) ((vN h (wN b 48) i).getD 1 0)) (band ((vN h (wN b 48) i).getD 0 0) ((vN h (wN b 48) i).getD 2 0))) (band ((vN h (wN b 48) i).getD 1 0) ((vN h (wN b 48) i).getD 2 0))))) 4294967295, (vN h (wN b 48) i).getD 0 0, (vN h (wN b 48) i).getD 1 0, (vN h (wN b 48) i).getD 2 0, band (wadd ((vN h (wN b 48) i).getD 3 0) (wadd (wadd (wadd (wadd ((vN h (wN b 48) i).getD 7 0) (bxor (bxor (turnW ((vN h (wN b 48) i).getD 4 0) 6) (turnW ((vN h (wN b 48) i).getD 4 0) 11)) (turnW ((vN h (wN b 48) i).getD 4 0) 25))) (bxor (band ((vN h (wN b 48) i).getD 4 0) ((vN h (wN b 48) i).getD 5 0)) (band (bxor 4294967295 ((vN h (wN b 48) i).getD 4 0)) ((vN h (wN b 48) i).getD 6 0)))) (shaK.getD i 0)) ((wN b 48).getD i 0))) 4294967295, (vN h (wN b 48) i).getD 4 0, (vN h (wN b 48) i).getD 5 0, (vN h (wN b 48) i).getD 6 0]))), []⟩] (by kernel_rfl) (by kernel_rfl) ?_ ?_
           ·
            refine .cons (fun E A => A.mv 19 204) ?_
            refine .cons (fun E A => A.mv 20 205) ?_
            refine .cons (fun E A => OpStep.plain rfl (Step.bd (r := .int .i64 (wadd (wadd (wadd (wadd (wadd ((vN h (wN b 48) i).getD 7 0) (bxor (bxor (turnW ((vN h (wN b 48) i).getD 4 0) 6) (turnW ((vN h (wN b 48) i).getD 4 0) 11)) (turnW ((vN h (wN b 48) i).getD 4 0) 25))) (bxor (band ((vN h (wN b 48) i).getD 4 0) ((vN h (wN b 48) i).getD 5 0)) (band (bxor 4294967295 ((vN h (wN b 48) i).getD 4 0)) ((vN h (wN b 48) i).getD 6 0)))) (shaK.getD i 0)) ((wN b 48).getD i 0)) (wadd (bxor (bxor (turnW ((vN h (wN b 48) i).getD 0 0) 2) (turnW ((vN h (wN b 48) i).getD 0 0) 13)) (turnW ((vN h (wN b 48) i).getD 0 0) 22)) (bxor (bxor (band ((vN h (wN b 48) i).getD 0 0) ((vN h (wN b 48) i).getD 1 0)) (band ((vN h (wN b 48) i).getD 0 0) ((vN h (wN b 48) i).getD 2 0))) (band ((vN h (wN b 48) i).getD 1 0) ((vN h (wN b 48) i).getD 2 0)))))) 206 (A.g 204 rfl) (A.g 205 rfl) (Bin.add (k := .i64) (a := (wadd (wadd (wadd (wadd ((vN h (wN b 48) i).getD 7 0) (bxor (bxor (turnW ((vN h (wN b 48) i).getD 4 0) 6) (turnW ((vN h (wN b 48) i).getD 4 0) 11)) (turnW ((vN h (wN b 48) i).getD 4 0) 25))) (bxor (band ((vN h (wN b 48) i).getD 4 0) ((vN h (wN b 48) i).getD 5 0)) (band (bxor 4294967295 ((vN h (wN b 48) i).getD 4 0)) ((vN h (wN b 48) i).getD 6 0)))) (shaK.getD i 0)) ((wN b 48).getD i 0))) (b := (wadd (bxor (bxor (turnW ((vN h (wN b 48) i).getD 0 0) 2) (turnW ((vN h (wN b 48) i).getD 0 0) 13)) (turnW ((vN h (wN b 48) i).getD 0 0) 22)) (bxor (bxor (band ((vN h (wN b 48) i).getD 0 0) ((vN h (wN b 48) i).getD 1 0)) (band ((vN h (wN b 48) i).getD 0 0) ((vN h (wN b 48) i).getD 2 0))) (band ((vN h (wN b 48) i).getD 1 0) ((vN h (wN b 48) i).getD 2 0))))) (rfl)))) ?_
            refine .cons (fun E A => OpStep.plain rfl (Step.bd (r := .int .i64 (band (wadd (wadd (wadd (wadd (wadd ((vN h (wN b 48) i).getD 7 0) (bxor (bxor (turnW ((vN h (wN b 48) i).getD 4 0) 6) (turnW ((vN h (wN b 48) i).getD 4 0) 11)) (turnW ((vN h (wN b 48) i).getD 4 0) 25))) (bxor (band ((vN h (wN b 48) i).getD 4 0) ((vN h (wN b 48) i).getD 5 0)) (band (bxor 4294967295 ((vN h (wN b 48) i).getD 4 0)) ((vN h (wN b 48) i).getD 6 0)))) (shaK.getD i 0)) ((wN b 48).getD i 0)) (wadd (bxor (bxor (turnW ((vN h (wN b 48) i).getD 0 0) 2) (turnW ((vN h (wN b 48) i).getD 0 0) 13)) (turnW ((vN h (wN b 48) i).getD 0 0) 22)) (bxor (bxor (band ((vN h (wN b 48) i).getD 0 0) ((vN h (wN b 48) i).getD 1 0)) (band ((vN h (wN b 48) i).getD 0 0) ((vN h (wN b 48) i).getD 2 0))) (band ((vN h (wN b 48) i).getD 1 0) ((vN h (wN b 48) i).getD 2 0))))) 4294967295)) 207 (A.g 206 rfl) rfl (Bin.and (k := .i64) (a := (wadd (wadd (wadd (wadd (wadd ((vN h (wN b 48) i).getD 7 0) (bxor (bxor (turnW ((vN h (wN b 48) i).getD 4 0) 6) (turnW ((vN h (wN b 48) i).getD 4 0) 11)) (turnW ((vN h (wN b 48) i).getD 4 0) 25))) (bxor (band ((vN h (wN b 48) i).getD 4 0) ((vN h (wN b 48) i).getD 5 0)) (band (bxor 4294967295 ((vN h (wN b 48) i).getD 4 0)) ((vN h (wN b 48) i).getD 6 0)))) (shaK.getD i 0)) ((wN b 48).getD i 0)) (wadd (bxor (bxor (turnW ((vN h (wN b 48) i).getD 0 0) 2) (turnW ((vN h (wN b 48) i).getD 0 0) 13)) (turnW ((vN h (wN b 48) i).getD 0 0) 22)) (bxor (bxor (band ((vN h (wN b 48) i).getD 0 0) ((vN h (wN b 48) i).getD 1 0)) (band ((vN h (wN b 48) i).getD 0 0) ((vN h (wN b 48) i).getD 2 0))) (band ((vN h (wN b 48) i).getD 1 0) ((vN h (wN b 48) i).getD 2 0)))))) (b := 4294967295) (rfl)))) ?_
            refine .cons (fun E A => A.mv 15 208) ?_
            refine .cons (fun E A => OpStep.plain rfl (Step.index (e := 3) (z := 1) (i := 0) (t := 209) rfl rfl (by exact lt_ok rfl) (by kernel_rfl) (A.g 208 rfl) rfl rfl (lt_ok rfl) rfl (by first | omega | (simp; omega) | (simp [w16_len, wN_len]; omega)) (by simp only [D.size]; first | omega | (simp; omega) | (simp [w16_len, wN_len]; omega)))) ?_
            refine .cons (fun E A => OpStep.plain rfl (Step.load (e := (.int .i64 ((vN h (wN b 48) i).getD 0 0))) (t := 210) rfl rfl (by exact lt_ok rfl) (by kernel_rfl) (A.g 209 rfl) rfl)) ?_
            refine .cons (fun E A => A.mv 15 211) ?_
            refine .cons (fun E A => OpStep.plain rfl (Step.index (e := 3) (z := 1) (i := 1) (t := 212) rfl rfl (by exact lt_ok rfl) (by kernel_rfl) (A.g 211 rfl) rfl rfl (lt_ok rfl) rfl (by first | omega | (simp; omega) | (simp [w16_len, wN_len]; omega)) (by simp only [D.size]; first | omega | (simp; omega) | (simp [w16_len, wN_len]; omega)))) ?_
            refine .cons (fun E A => OpStep.plain rfl (Step.load (e := (.int .i64 ((vN h (wN b 48) i).getD 1 0))) (t := 213) rfl rfl (by exact lt_ok rfl) (by kernel_rfl) (A.g 212 rfl) rfl)) ?_
            refine .cons (fun E A => A.mv 15 214) ?_
            refine .cons (fun E A => OpStep.plain rfl (Step.index (e := 3) (z := 1) (i := 2) (t := 215) rfl rfl (by exact lt_ok rfl) (by kernel_rfl) (A.g 214 rfl) rfl rfl (lt_ok rfl) rfl (by first | omega | (simp; omega) | (simp [w16_len, wN_len]; omega)) (by simp only [D.size]; first | omega | (simp; omega) | (simp [w16_len, wN_len]; omega)))) ?_
            refine .cons (fun E A => OpStep.plain rfl (Step.load (e := (.int .i64 ((vN h (wN b 48) i).getD 2 0))) (t := 216) rfl rfl (by exact lt_ok rfl) (by kernel_rfl) (A.g 215 rfl) rfl)) ?_
            refine .cons (fun E A => A.mv 15 217) ?_
            refine .cons (fun E A => OpStep.plain rfl (Step.index (e := 3) (z := 1) (i := 3) (t := 218) rfl rfl (by exact lt_ok rfl) (by kernel_rfl) (A.g 217 rfl) rfl rfl (lt_ok rfl) rfl (by first | omega | (simp; omega) | (simp [w16_len, wN_len]; omega)) (by simp only [D.size]; first | omega | (simp; omega) | (simp [w16_len, wN_len]; omega)))) ?_
            refine .cons (fun E A => OpStep.plain rfl (Step.load (e := (.int .i64 ((vN h (wN b 48) i).getD 3 0))) (t := 219) rfl rfl (by exact lt_ok rfl) (by kernel_rfl) (A.g 218 rfl) rfl)) ?_
            refine .cons (fun E A => A.mv 19 220) ?_
            refine .cons (fun E A => OpStep.plain rfl (Step.bd (r := .int .i64 (wadd ((vN h (wN b 48) i).getD 3 0) (wadd (wadd (wadd (wadd ((vN h (wN b 48) i).getD 7 0) (bxor (bxor (turnW ((vN h (wN b 48) i).getD 4 0) 6) (turnW ((vN h (wN b 48) i).getD 4 0) 11)) (turnW ((vN h (wN b 48) i).getD 4 0) 25))) (bxor (band ((vN h (wN b 48) i).getD 4 0) ((vN h (wN b 48) i).getD 5 0)) (band (bxor 4294967295 ((vN h (wN b 48) i).getD 4 0)) ((vN h (wN b 48) i).getD 6 0)))) (shaK.getD i 0)) ((wN b 48).getD i 0)))) 221 (A.g 219 rfl) (A.g 220 rfl) (Bin.add (k := .i64) (a := ((vN h (wN b 48) i).getD 3 0)) (b := (wadd (wadd (wadd (wadd ((vN h (wN b 48) i).getD 7 0) (bxor (bxor (turnW ((vN h (wN b 48) i).getD 4 0) 6) (turnW ((vN h (wN b 48) i).getD 4 0) 11)) (turnW ((vN h (wN b 48) i).getD 4 0) 25))) (bxor (band ((vN h (wN b 48) i).getD 4 0) ((vN h (wN b 48) i).getD 5 0)) (band (bxor 4294967295 ((vN h (wN b 48) i).getD 4 0)) ((vN h (wN b 48) i).getD 6 0)))) (shaK.getD i 0)) ((wN b 48).getD i 0))) (rfl)))) ?_
            refine .cons (fun E A => OpStep.plain rfl (Step.bd (r := .int .i64 (band (wadd ((vN h (wN b 48) i).getD 3 0) (wadd (wadd (wadd (wadd ((vN h (wN b 48) i).getD 7 0) (bxor (bxor (turnW ((vN h (wN b 48) i).getD 4 0) 6) (turnW ((vN h (wN b 48) i).getD 4 0) 11)) (turnW ((vN h (wN b 48) i).getD 4 0) 25))) (bxor (band ((vN h (wN b 48) i).getD 4 0) ((vN h (wN b 48) i).getD 5 0)) (band (bxor 4294967295 ((vN h (wN b 48) i).getD 4 0)) ((vN h (wN b 48) i).getD 6 0)))) (shaK.getD i 0)) ((wN b 48).getD i 0))) 4294967295)) 222 (A.g 221 rfl) rfl (Bin.and (k := .i64) (a := (wadd ((vN h (wN b 48) i).getD 3 0) (wadd (wadd (wadd (wadd ((vN h (wN b 48) i).getD 7 0) (bxor (bxor (turnW ((vN h (wN b 48) i).getD 4 0) 6) (turnW ((vN h (wN b 48) i).getD 4 0) 11)) (turnW ((vN h (wN b 48) i).getD 4 0) 25))) (bxor (band ((vN h (wN b 48) i).getD 4 0) ((vN h (wN b 48) i).getD 5 0)) (band (bxor 4294967295 ((vN h (wN b 48) i).getD 4 0)) ((vN h (wN b 48) i).getD 6 0)))) (shaK.getD i 0)) ((wN b 48).getD i 0)))) (b := 4294967295) (rfl)))) ?_
            refine .cons (fun E A => A.mv 15 223) ?_
            refine .cons (fun E A => OpStep.plain rfl (Step.index (e := 3) (z := 1) (i := 4) (t := 224) rfl rfl (by exact lt_ok rfl) (by kernel_rfl) (A.g 223 rfl) rfl rfl (lt_ok rfl) rfl (by first | omega | (simp; omega) | (simp [w16_len, wN_len]; omega)) (by simp only [D.size]; first | omega | (simp; omega) | (simp [w16_len, wN_len]; omega)))) ?_
            refine .cons (fun E A => OpStep.plain rfl (Step.load (e := (.int .i64 ((vN h (wN b 48) i).getD 4 0))) (t := 225) rfl rfl (by exact lt_ok rfl) (by kernel_rfl) (A.g 224 rfl) rfl)) ?_
            refine .cons (fun E A => A.mv 15 226) ?_
            refine .cons (fun E A => OpStep.plain rfl (Step.index (e := 3) (z := 1) (i := 5) (t := 227) rfl rfl (by exact lt_ok rfl) (by kernel_rfl) (A.g 226 rfl) rfl rfl (lt_ok rfl) rfl (by first | omega | (simp; omega) | (simp [w16_len, wN_len]; omega)) (by simp only [D.size]; first | omega | (simp; omega) | (simp [w16_len, wN_len]; omega)))) ?_
            refine .cons (fun E A => OpStep.plain rfl (Step.load (e := (.int .i64 ((vN h (wN b 48) i).getD 5 0))) (t := 228) rfl rfl (by exact lt_ok rfl) (by kernel_rfl) (A.g 227 rfl) rfl)) ?_
            refine .cons (fun E A => A.mv 15 229) ?_
            refine .cons (fun E A => OpStep.plain rfl (Step.index (e := 3) (z := 1) (i := 6) (t := 230) rfl rfl (by exact lt_ok rfl) (by kernel_rfl) (A.g 229 rfl) rfl rfl (lt_ok rfl) rfl (by first | omega | (simp; omega) | (simp [w16_len, wN_len]; omega)) (by simp only [D.size]; first | omega | (simp; omega) | (simp [w16_len, wN_len]; omega)))) ?_
            refine .cons (fun E A => OpStep.plain rfl (Step.load (e := (.int .i64 ((vN h (wN b 48) i).getD 6 0))) (t := 231) rfl rfl (by exact lt_ok rfl) (by kernel_rfl) (A.g 230 rfl) rfl)) ?_
            refine .cons (fun E A => OpStep.plain rfl (Step.lit_d (e := 3) (z := 1) (by_ := 8) (xs := [.tmp 207, .tmp 210, .tmp 213, .tmp 216, .tmp 222, .tmp 225, .tmp 228, .tmp 231]) (pss := [[cI (band (wadd (wadd (wadd (wadd (wadd ((vN h (wN b 48) i).getD 7 0) (bxor (bxor (turnW ((vN h (wN b 48) i).getD 4 0) 6) (turnW ((vN h (wN b 48) i).getD 4 0) 11)) (turnW ((vN h (wN b 48) i).getD 4 0) 25))) (bxor (band ((vN h (wN b 48) i).getD 4 0) ((vN h (wN b 48) i).getD 5 0)) (band (bxor 4294967295 ((vN h (wN b 48) i).getD 4 0)) ((vN h (wN b 48) i).getD 6 0)))) (shaK.getD i 0)) ((wN b 48).getD i 0)) (wadd (bxor (bxor (turnW ((vN h (wN b 48) i).getD 0 0) 2) (turnW ((vN h (wN b 48) i).getD 0 0) 13)) (turnW ((vN h (wN b 48) i).getD 0 0) 22)) (bxor (bxor (band ((vN h (wN b 48) i).getD 0 0) ((vN h (wN b 48) i).getD 1 0)) (band ((vN h (wN b 48) i).getD 0 0) ((vN h (wN b 48) i).getD 2 0))) (band ((vN h (wN b 48) i).getD 1 0) ((vN h (wN b 48) i).getD 2 0))))) 4294967295)], [cI ((vN h (wN b 48) i).getD 0 0)], [cI ((vN h (wN b 48) i).getD 1 0)], [cI ((vN h (wN b 48) i).getD 2 0)], [cI (band (wadd ((vN h (wN b 48) i).getD 3 0) (wadd (wadd (wadd (wadd ((vN h (wN b 48) i).getD 7 0) (bxor (bxor (turnW ((vN h (wN b 48) i).getD 4 0) 6) (turnW ((vN h (wN b 48) i).getD 4 0) 11)) (turnW ((vN h (wN b 48) i).getD 4 0) 25))) (bxor (band ((vN h (wN b 48) i).getD 4 0) ((vN h (wN b 48) i).getD 5 0)) (band (bxor 4294967295 ((vN h (wN b 48) i).getD 4 0)) ((vN h (wN b 48) i).getD 6 0)))) (shaK.getD i 0)) ((wN b 48).getD i 0))) 4294967295)], [cI ((vN h (wN b 48) i).getD 4 0)], [cI ((vN h (wN b 48) i).getD 5 0)], [cI ((vN h (wN b 48) i).getD 6 0)]]) (ds := [(.int .i64 (band (wadd (wadd (wadd (wadd (wadd ((vN h (wN b 48) i).getD 7 0) (bxor (bxor (turnW ((vN h (wN b 48) i).getD 4 0) 6) (turnW ((vN h (wN b 48) i).getD 4 0) 11)) (turnW ((vN h (wN b 48) i).getD 4 0) 25))) (bxor (band ((vN h (wN b 48) i).getD 4 0) ((vN h (wN b 48) i).getD 5 0)) (band (bxor 4294967295 ((vN h (wN b 48) i).getD 4 0)) ((vN h (wN b 48) i).getD 6 0)))) (shaK.getD i 0)) ((wN b 48).getD i 0)) (wadd (bxor (bxor (turnW ((vN h (wN b 48) i).getD 0 0) 2) (turnW ((vN h (wN b 48) i).getD 0 0) 13)) (turnW ((vN h (wN b 48) i).getD 0 0) 22)) (bxor (bxor (band ((vN h (wN b 48) i).getD 0 0) ((vN h (wN b 48) i).getD 1 0)) (band ((vN h (wN b 48) i).getD 0 0) ((vN h (wN b 48) i).getD 2 0))) (band ((vN h (wN b 48) i).getD 1 0) ((vN h (wN b 48) i).getD 2 0))))) 4294967295)), (.int .i64 ((vN h (wN b 48) i).getD 0 0)), (.int .i64 ((vN h (wN b 48) i).getD 1 0)), (.int .i64 ((vN h (wN b 48) i).getD 2 0)), (.int .i64 (band (wadd ((vN h (wN b 48) i).getD 3 0) (wadd (wadd (wadd (wadd ((vN h (wN b 48) i).getD 7 0) (bxor (bxor (turnW ((vN h (wN b 48) i).getD 4 0) 6) (turnW ((vN h (wN b 48) i).getD 4 0) 11)) (turnW ((vN h (wN b 48) i).getD 4 0) 25))) (bxor (band ((vN h (wN b 48) i).getD 4 0) ((vN h (wN b 48) i).getD 5 0)) (band (bxor 4294967295 ((vN h (wN b 48) i).getD 4 0)) ((vN h (wN b 48) i).getD 6 0)))) (shaK.getD i 0)) ((wN b 48).getD i 0))) 4294967295)), (.int .i64 ((vN h (wN b 48) i).getD 4 0)), (.int .i64 ((vN h (wN b 48) i).getD 5 0)), (.int .i64 ((vN h (wN b 48) i).getD 6 0))]) (d := (.ints .i64 [band (wadd (wadd (wadd (wadd (wadd ((vN h (wN b 48) i).getD 7 0) (bxor (bxor (turnW ((vN h (wN b 48) i).getD 4 0) 6) (turnW ((vN h (wN b 48) i).getD 4 0) 11)) (turnW ((vN h (wN b 48) i).getD 4 0) 25))) (bxor (band ((vN h (wN b 48) i).getD 4 0) ((vN h (wN b 48) i).getD 5 0)) (band (bxor 4294967295 ((vN h (wN b 48) i).getD 4 0)) ((vN h (wN b 48) i).getD 6 0)))) (shaK.getD i 0)) ((wN b 48).getD i 0)) (wadd (bxor (bxor (turnW ((vN h (wN b 48) i).getD 0 0) 2) (turnW ((vN h (wN b 48) i).getD 0 0) 13)) (turnW ((vN h (wN b 48) i).getD 0 0) 22)) (bxor (bxor (band ((vN h (wN b 48) i).getD 0 0) ((vN h (wN b 48) i).getD 1 0)) (band ((vN h (wN b 48) i).getD 0 0) ((vN h (wN b 48) i).getD 2 0))) (band ((vN h (wN b 48) i).getD 1 0) ((vN h (wN b 48) i).getD 2 0))))) 4294967295, (vN h (wN b 48) i).getD 0 0, (vN h (wN b 48) i).getD 1 0, (vN h (wN b 48) i).getD 2 0, band (wadd ((vN h (wN b 48) i).getD 3 0) (wadd (wadd (wadd (wadd ((vN h (wN b 48) i).getD 7 0) (bxor (bxor (turnW ((vN h (wN b 48) i).getD 4 0) 6) (turnW ((vN h (wN b 48) i).getD 4 0) 11)) (turnW ((vN h (wN b 48) i).getD 4 0) 25))) (bxor (band ((vN h (wN b 48) i).getD 4 0) ((vN h (wN b 48) i).getD 5 0)) (band (bxor 4294967295 ((vN h (wN b 48) i).getD 4 0)) ((vN h (wN b 48) i).getD 6 0)))) (shaK.getD i 0)) ((wN b 48).getD i 0))) 4294967295, (vN h (wN b 48) i).getD 4 0, (vN h (wN b 48) i).getD 5 0, (vN h (wN b 48) i).getD 6 0])) (t := 232) rfl rfl (by exact lt_ok rfl) (by kernel_rfl) rfl rfl (.cons (by exact (congrArg PV.flat (A.g 207 rfl)).trans rfl) (.cons (by exact (congrArg PV.flat (A.g 210 rfl)).trans rfl) (.cons (by exact (congrArg PV.flat (A.g 213 rfl)).trans rfl) (.cons (by exact (congrArg PV.flat (A.g 216 rfl)).trans rfl) (.cons (by exact (congrArg PV.flat (A.g 222 rfl)).trans rfl) (.cons (by exact (congrArg PV.flat (A.g 225 rfl)).trans rfl) (.cons (by exact (congrArg PV.flat (A.g 228 rfl)).trans rfl) (.cons (by exact (congrArg PV.flat (A.g 231 rfl)).trans rfl) .nil)))))))) (by simp) (le_ok rfl) (le_ok rfl) rfl rfl trivial rfl rfl)) ?_
            exact .nil _ _
           refine TL.as (.one (.d (.ints .i64 [band (wadd (wadd (wadd (wadd (wadd ((vN h (wN b 48) i).getD 7 0) (bxor (bxor (turnW ((vN h (wN b 48) i).getD 4 0) 6) (turnW ((vN h (wN b 48) i).getD 4 0) 11)) (turnW ((vN h (wN b 48) i).getD 4 0) 25))) (bxor (band ((vN h (wN b 48) i).getD 4 0) ((vN h (wN b 48) i).getD 5 0)) (band (bxor 4294967295 ((vN h (wN b 48) i).getD 4 0)) ((vN h (wN b 48) i).getD 6 0)))) (shaK.getD i 0)) ((wN b 48).getD i 0)) (wadd (bxor (bxor (turnW ((vN h (wN b 48) i).getD 0 0) 2) (turnW ((vN h (wN b 48) i).getD 0 0) 13)) (turnW ((vN h (wN b 48) i).getD 0 0) 22)) (bxor (bxor (band ((vN h (wN b 48) i).getD 0 0) ((vN h (wN b 48) i).getD 1 0)) (band ((vN h (wN b 48) i).getD 0 0) ((vN h (wN b 48) i).getD 2 0))) (band ((vN h (wN b 48) i).getD 1 0) ((vN h (wN b 48) i).getD 2 0))))) 4294967295, (vN h (wN b 48) i).getD 0 0, (vN h (wN b 48) i).getD 1 0, (vN h (wN b 48) i).getD 2 0, band (wadd ((vN h (wN b 48) i).getD 3 0) (wadd (wadd (wadd (wadd ((vN h (wN b 48) i).getD 7 0) (bxor (bxor (turnW ((vN h (wN b 48) i).getD 4 0) 6) (turnW ((vN h (wN b 48) i).getD 4 0) 11)) (turnW ((vN h (wN b 48) i).getD 4 0) 25))) (bxor (band ((vN h (wN b 48) i).getD 4 0) ((vN h (wN b 48) i).getD 5 0)) (band (bxor 4294967295 ((vN h (wN b 48) i).getD 4 0)) ((vN h (wN b 48) i).getD 6 0)))) (shaK.getD i 0)) ((wN b 48).getD i 0))) 4294967295, (vN h (wN b 48) i).getD 4 0, (vN h (wN b 48) i).getD 5 0, (vN h (wN b 48) i).getD 6 0]))) ?_
           refine TL.nil ?_
           refine T.region ?_
           refine TL.mv (pI (i : Int)) ?_
           refine TL.c (Step.bin (r := .int .i64 ((i : Int) + 1)) rfl rfl (lt_ok rfl) rfl rfl (Bin.add (a := (i : Int)) (b := 1) (by first | exact wrap_ok (by first | omega | (simp; omega) | (simp [w16_len, wN_len]; omega)) (by first | omega | (simp; omega) | (simp [w16_len, wN_len]; omega)) | rfl))) ?_
           refine TL.as (pI ((i : Int) + 1)) ?_
           refine TL.nil ?_
           refine ⟨i + 1, by omega, by first | omega | (dsimp only; omega), Env.le_mk ⟨rfl, rfl, rfl, ?_, ?_, trivial⟩ ⟨rfl, rfl, trivial⟩ trivial⟩ <;> (first | exact congrArg (fun x => some (_, D.ints .i64 (wN b x))) (show i = 48 by omega) | rfl | (refine congrArg (fun x => some (_, D.ints .i64 x)) ?_; first | rfl | fail) | (refine congrArg (fun n => PV.one (.d (.int .i64 n))) ?_; first | rfl | omega | (simp; done)))
          ·
           replace h8 := of_decide_eq_false h8
           refine T.exit ?_
           refine T.seq ?_
           refine T.region ?_
           refine TL.c (Step.lit (e := 3) (z := 1) (by_ := 8) (xs := []) (pss := []) (es := []) (ss := []) (d := (.ints .i64 [])) rfl rfl (lt_ok rfl) (by kernel_rfl) rfl rfl .nil (by simp) (le_ok rfl) (le_ok rfl) rfl .nil rfl (by simp) (by simp) rfl trivial rfl rfl) ?_
           refine TL.as (.one (.row 233 [])) ?_
           refine TL.nil ?_
           refine T.seq ?_
           refine T.seq ?_
           refine T.region ?_
           refine TL.mv (.one (.d (.ints .i64 h))) ?_
           refine TL.c (Step.len (e := 3) (z := 1) (d := (.ints .i64 h)) rfl rfl (lt_ok rfl) (by kernel_rfl) rfl rfl) ?_
           refine TL.mv (pI 0) ?_
           refine TL.nil ?_
           refine T.block ?_
           refine T.loop (ι := Nat) (fun xx_ => { tm := [(0, (.one (.d (.ints .i64 h)))), (15, (.one (.d (.ints .i64 (vN h (wN b 48) 64))))), (235, (pI (h.length : Int))), (236, (pI (xx_ : Int))), (21, (.one (.row 233 [])))], rows := [(1127, (3, (.ints .i64 shaK))), (233, (3, (.ints .i64 (outs h (vN h (wN b 48) 64) xx_))))], boxes := [] }) (fun xx_ => xx_ ≤ 8) (fun xx_ => 8 - xx_) 0 ?_ ?_ ?_
           · refine Env.le_mk ⟨rfl, ?_, rfl, ?_, rfl, trivial⟩ ⟨rfl, ?_, trivial⟩ trivial <;> (first | (exact congrArg (fun x => some (_, D.ints .i64 (vN h (wN b 48) x))) (show i = 64 by omega)) | (exact congrArg (fun x => PV.one (.d (.ints .i64 (vN h (wN b 48) x)))) (show i = 64 by omega)) | rfl | (refine congrArg (fun x => some (_, D.ints .i64 x)) ?_; first | rfl | (rw [show i = 64 from by omega]; first | done | rfl)) | (refine congrArg (fun n => PV.one (.d (.int .i64 n))) ?_; first | rfl | omega | (simp; done)))
           · exact Nat.zero_le _
           ·
            intro i hx
            try dsimp only at hx ⊢
            have hvl_ := vN_len (h := h) (w := wN b 48) (by omega) 64
            have hol_ := outs_len h (vN h (wN b 48) 64) i
            refine T.seq ?_
            refine T.region ?_
            refine TL.c (Step.bin rfl rfl (lt_ok rfl) rfl rfl (Bin.lss (k := .i64) (a := (i : Int)) (b := (h.length : Int)))) ?_
            refine TL.nil ?_
            refine T.seq ?_
            refine T.cond (b := decide ((i : Int) < (h.length : Int))) rfl (fun h9 => ?_) (fun h9 => ?_)
            ·
             replace h9 := of_decide_eq_true h9
             refine T.skip ?_
             refine T.seq ?_
             refine T.block ?_
             refine T.seq ?_
             refine T.region ?_
             refine TL.mv (pI (i : Int)) ?_
             refine TL.as (pI (i : Int)) ?_
             refine TL.nil ?_
             refine T.draw [⟨239, (.one (.row 233 [])), []⟩, ⟨240, (.one (.d (.ints .i64 h))), []⟩, ⟨241, (pI (i : Int)), []⟩, ⟨242, (.one (.eptr (.ints .i64 h) i 0)), []⟩, ⟨243, (pI (h.getD i 0)), []⟩, ⟨244, (.one (.d (.ints .i64 (vN h (wN b 48) 64)))), []⟩, ⟨245, (pI (i : Int)), []⟩, ⟨246, (.one (.eptr (.ints .i64 (vN h (wN b 48) 64)) i 0)), []⟩, ⟨247, (pI ((vN h (wN b 48) 64).getD i 0)), []⟩, ⟨248, (pI (wadd (h.getD i 0) ((vN h (wN b 48) 64).getD i 0))), []⟩, ⟨249, (pI (band (wadd (h.getD i 0) ((vN h (wN b 48) 64).getD i 0)) 4294967295)), []⟩, ⟨250, (.one (.d (.ints .i64 [band (wadd (h.getD i 0) ((vN h (wN b 48) 64).getD i 0)) 4294967295]))), []⟩] (by kernel_rfl) (by kernel_rfl) ?_ ?_
             ·
              refine .cons (fun E A => A.mv 21 239) ?_
              refine .cons (fun E A => A.mv 0 240) ?_
              refine .cons (fun E A => A.mv 22 241) ?_
              refine .cons (fun E A => OpStep.plain rfl (Step.index (e := 3) (z := 1) (i := (i : Int)) (t := 242) rfl rfl (by exact lt_ok rfl) (by kernel_rfl) (A.g 240 rfl) rfl rfl (lt_ok rfl) (A.g 241 rfl) (by first | omega | (simp; omega) | (simp [w16_len, wN_len]; omega)) (by simp only [D.size]; first | omega | (simp; omega) | (simp [w16_len, wN_len]; omega)))) ?_
              refine .cons (fun E A => OpStep.plain rfl (Step.load (e := (.int .i64 (h.getD i 0))) (t := 243) rfl rfl (by exact lt_ok rfl) (by kernel_rfl) (A.g 242 rfl) rfl)) ?_
              refine .cons (fun E A => A.mv 15 244) ?_
              refine .cons (fun E A => A.mv 22 245) ?_
              refine .cons (fun E A => OpStep.plain rfl (Step.index (e := 3) (z := 1) (i := (i : Int)) (t := 246) rfl rfl (by exact lt_ok rfl) (by kernel_rfl) (A.g 244 rfl) rfl rfl (lt_ok rfl) (A.g 245 rfl) (by first | omega | (simp; omega) | (simp [w16_len, wN_len]; omega)) (by simp only [D.size]; first | omega | (simp; omega) | (simp [w16_len, wN_len]; omega)))) ?_
              refine .cons (fun E A => OpStep.plain rfl (Step.load (e := (.int .i64 ((vN h (wN b 48) 64).getD i 0))) (t := 247) rfl rfl (by exact lt_ok rfl) (by kernel_rfl) (A.g 246 rfl) rfl)) ?_
              refine .cons (fun E A => OpStep.plain rfl (Step.bd (r := .int .i64 (wadd (h.getD i 0) ((vN h (wN b 48) 64).getD i 0))) 248 (A.g 243 rfl) (A.g 247 rfl) (Bin.add (k := .i64) (a := (h.getD i 0)) (b := ((vN h (wN b 48) 64).getD i 0)) (rfl)))) ?_
              refine .cons (fun E A => OpStep.plain rfl (Step.bd (r := .int .i64 (band (wadd (h.getD i 0) ((vN h (wN b 48) 64).getD i 0)) 4294967295)) 249 (A.g 248 rfl) rfl (Bin.and (k := .i64) (a := (wadd (h.getD i 0) ((vN h (wN b 48) 64).getD i 0))) (b := 4294967295) (rfl)))) ?_
              refine .cons (fun E A => OpStep.plain rfl (Step.lit_d (e := 3) (z := 1) (by_ := 8) (xs := [.tmp 249]) (pss := [[cI (band (wadd (h.getD i 0) ((vN h (wN b 48) 64).getD i 0)) 4294967295)]]) (ds := [(.int .i64 (band (wadd (h.getD i 0) ((vN h (wN b 48) 64).getD i 0)) 4294967295))]) (d := (.ints .i64 [band (wadd (h.getD i 0) ((vN h (wN b 48) 64).getD i 0)) 4294967295])) (t := 250) rfl rfl (by exact lt_ok rfl) (by kernel_rfl) rfl rfl (.cons (by exact (congrArg PV.flat (A.g 249 rfl)).trans rfl) .nil) (by simp) (le_ok rfl) (le_ok rfl) rfl rfl trivial rfl rfl)) ?_
              exact .nil _ _
             refine TL.c (Step.append (e := 3) (z := 1) (by_ := 8) (d := (.ints .i64 (outs h (vN h (wN b 48) 64) i))) (dy := (.ints .i64 [band (wadd (h.getD i 0) ((vN h (wN b 48) 64).getD i 0)) 4294967295])) (d' := (.ints .i64 ((outs h (vN h (wN b 48) 64) i) ++ [band (wadd (h.getD i 0) ((vN h (wN b 48) 64).getD i 0)) 4294967295]))) (ss := []) rfl rfl (lt_ok rfl) (by kernel_rfl) rfl rfl rfl (lt_ok rfl) rfl (.froz rfl (by simp [D.flat, D.val])) (by simp) rfl (by simp only [D.size, List.length_map]; first | omega | (simp only [List.length_append, List.length_cons, List.length_nil]; omega) | (simp; omega) | (simp only [List.length_append] at *; omega)) (by simp only [D.size, List.length_map]; first | omega | (simp only [List.length_append, List.length_cons, List.length_nil]; omega) | (simp; omega) | (simp only [List.length_append] at *; omega)) (by simp)) ?_
             refine TL.as (.one (.row 233 [])) ?_
             refine TL.nil ?_
             refine T.region ?_
             refine TL.c (Step.bin (r := .int .i64 ((i : Int) + 1)) rfl rfl (lt_ok rfl) rfl rfl (Bin.add (a := (i : Int)) (b := 1) (by first | exact wrap_ok (by first | omega | (simp; omega) | (simp [w16_len, wN_len]; omega)) (by first | omega | (simp; omega) | (simp [w16_len, wN_len]; omega)) | rfl))) ?_
             refine TL.mv (pI ((i : Int) + 1)) ?_
             refine TL.nil ?_
             refine ⟨i + 1, by omega, by first | omega | (dsimp only; omega), Env.le_mk ⟨rfl, rfl, rfl, ?_, rfl, trivial⟩ ⟨rfl, ?_, trivial⟩ trivial⟩ <;> (first | (exact congrArg (fun x => some (_, D.ints .i64 (vN h (wN b 48) x))) (show i = 64 by omega)) | (exact congrArg (fun x => PV.one (.d (.ints .i64 (vN h (wN b 48) x)))) (show i = 64 by omega)) | rfl | (refine congrArg (fun x => some (_, D.ints .i64 x)) ?_; first | rfl | (rw [show i = 64 from by omega]; first | done | rfl)) | (refine congrArg (fun n => PV.one (.d (.int .i64 n))) ?_; first | rfl | omega | (simp; done)))
            ·
             replace h9 := of_decide_eq_false h9
             refine T.exit ?_
             refine T.seq ?_
             refine T.region ?_
             refine TL.mv (.one (.row 233 [])) ?_
             refine TL.as (.one (.row 233 [])) ?_
             refine TL.nil ?_
             refine T.ret ?_
             refine ⟨[(false, [.row 233 []])], (.cons rfl .nil), rfl, [233], (RetC.own' rfl ?_ rfl .nil)⟩ <;> (first | (rw [shaBlock_yes (h := h) (b := b) ⟨by omega, by omega, hwo_⟩, show i = 8 from by omega]; done) | (simp only [D.size]; first | (rw [shaBlock_no (fun h_ => by have := h_.1; have := h_.2.1; omega)]; rfl) | (rw [shaBlock_no (fun h_ => by have := h_.2.2; rw [words_no (i := i) (by omega) (by omega)] at this; cases this)]; rfl)))
theorem ok_spec_Sha (b : List Int) (h0_ : U8s b) (h1_ : b.length ≤ 17592186040000) : RO Try.prog 89 [.one (.ints .u8 b)] [(false, [.own 5 (.ints .u8 (sha b))])] := by
 refine RO.intro Try.func89 rfl 48 rfl (le_ok rfl) fun w Z => ?_
 refine T.bnd 0 0 rfl rfl fun hb_0_0 => ?_
 simp only [D.size, List.length_map] at hb_0_0
 refine T.seq ?_
 refine T.region ?_
 refine TL.as (.one (.nil)) ?_
 refine TL.nil ?_
 refine T.seq ?_
 refine T.region ?_
 refine TL.c (Step.cl (xs := []) (ps := []) (g := .func 107) false .nil (ok_spec_ShaInit )) ?_
 refine TL.as (.one (.row 1009 [])) ?_
 refine TL.ren 1009 600003 rfl (by simp) ?_
 refine TL.nil ?_
 refine T.seq ?_
 refine T.region ?_
 refine TL.mv (pS b) ?_
 have nn1 := shaPad_mod b
 refine TL.c (Step.cl (xs := [.tmp 10]) (ps := [(pS b)]) (g := .func 108) false (.cons (.one (.d _)) .nil) (ok_spec_ShaPad b (by first | omega | assumption | (simp only [List.length_append] at *; omega)))) ?_
 refine TL.freeze (r := 1011) rfl (fun _ h => h) ?_
 refine TL.as (pS (shaPad b)) ?_
 refine TL.nil ?_
 refine T.seq ?_
 refine T.seq ?_
 refine T.region ?_
 refine TL.as (pI 0) ?_
 refine TL.nil ?_
 refine T.block ?_
 refine T.loop (ι := Nat) (fun xx_ => { tm := [(2, (.one (.nil))), (4, (pS (shaPad b))), (5, (pI (64 * (xx_ : Int)))), (3, (.one (.row 600003 [])))], rows := [(600003, (3, (.ints .i64 (hN (shaPad b) xx_))))], boxes := [] }) (fun xx_ => 64 * xx_ ≤ (shaPad b).length) (fun xx_ => (shaPad b).length - 64 * xx_) 0 ?_ ?_ ?_
 · refine Env.le_mk ⟨rfl, rfl, ?_, rfl, trivial⟩ ⟨?_, trivial⟩ trivial <;> (first | rfl | (refine congrArg (fun n => PV.one (.d (.int .i64 n))) ?_; first | rfl | omega | (simp; done)))
 · exact Nat.zero_le _
 ·
  intro i hx
  try dsimp only at hx ⊢
  have hu_ := u8_sub (shaPad_u8 h0_)
  refine T.seq ?_
  refine T.seq ?_
  refine T.region ?_
  refine TL.mv (pI (64 * (i : Int))) ?_
  refine TL.mv (pS (shaPad b)) ?_
  refine TL.c (Step.len (e := 5) (z := 1) (d := (.ints .u8 (shaPad b))) rfl rfl (lt_ok rfl) (by kernel_rfl) rfl rfl) ?_
  refine TL.c (Step.bin rfl rfl (lt_ok rfl) rfl rfl (Bin.lss (k := .i64) (a := (64 * (i : Int))) (b := ((shaPad b).length : Int)))) ?_
  refine TL.nil ?_
  refine T.cond (b := decide ((64 * (i : Int)) < ((shaPad b).length : Int))) rfl (fun h2 => ?_) (fun h2 => ?_)
  ·
   replace h2 := of_decide_eq_true h2
   refine T.skip ?_
   refine T.seq ?_
   refine T.block ?_
   refine T.region ?_
   refine TL.mv (.one (.row 600003 [])) ?_
   refine TL.mv (pS (shaPad b)) ?_
   refine TL.mv (pI (64 * (i : Int))) ?_
   refine TL.mv (pI (64 * (i : Int))) ?_
   refine TL.c (Step.bin (r := .int .i64 ((64 * (i : Int)) + 64)) rfl rfl (lt_ok rfl) rfl rfl (Bin.add (a := (64 * (i : Int))) (b := 64) (by first | exact wrap_ok (by first | omega | (simp; omega)) (by first | omega | (simp; omega)) | rfl))) ?_
   refine TL.c (Step.slice (e := 5) (z := 1) (l := (64 * (i : Int)).toNat) (h := ((64 * (i : Int)) + 64).toNat) rfl rfl (lt_ok rfl) (by kernel_rfl) rfl rfl rfl ((.some (i := (64 * (i : Int))) rfl (by first | omega | (simp; omega)))) ((.some (i := ((64 * (i : Int)) + 64)) rfl (by first | omega | (simp; omega)))) (by first | omega | (simp; omega)) (by simp only [D.size]; first | omega | (simp; omega)) rfl) ?_
   have nn3 := shaBlock_len (hN (shaPad b) i) (((shaPad b).drop (64 * (i : Int)).toNat).take (((64 * (i : Int)) + 64).toNat - (64 * (i : Int)).toNat))
   refine TL.c (Step.cl (xs := [.tmp 18, .tmp 23]) (ps := [(.one (.row 600003 [])), (pS (((shaPad b).drop (64 * (i : Int)).toNat).take (((64 * (i : Int)) + 64).toNat - (64 * (i : Int)).toNat)))]) (g := .func 109) false (.cons (.one (.row rfl rfl rfl rfl)) (.cons (.one (.d _)) .nil)) (ok_spec_ShaBlock (hN (shaPad b) i) (((shaPad b).drop (64 * (i : Int)).toNat).take (((64 * (i : Int)) + 64).toNat - (64 * (i : Int)).toNat)) (by first | assumption | exact hu_ _ _))) ?_
   refine TL.as (.one (.row 1024 [])) ?_
   refine TL.weaken (Env.drops_le [600003] _) ?_
   refine TL.ren 1024 600003 rfl (by simp) ?_
   refine TL.nil ?_
   refine T.region ?_
   refine TL.mv (pI (64 * (i : Int))) ?_
   refine TL.c (Step.bin (r := .int .i64 ((64 * (i : Int)) + 64)) rfl rfl (lt_ok rfl) rfl rfl (Bin.add (a := (64 * (i : Int))) (b := 64) (by first | exact wrap_ok (by first | omega | (simp; omega)) (by first | omega | (simp; omega)) | rfl))) ?_
   refine TL.as (pI ((64 * (i : Int)) + 64)) ?_
   refine TL.nil ?_
   refine ⟨i + 1, by omega, by first | omega | (dsimp only; omega), Env.le_mk ⟨rfl, rfl, ?_, rfl, trivial⟩ ⟨?_, trivial⟩ trivial⟩ <;> (first | rfl | (refine congrArg (fun n => PV.one (.d (.int .i64 n))) ?_; first | rfl | omega | (simp; done)))
  ·
   replace h2 := of_decide_eq_false h2
   refine T.exit ?_
   refine T.seq ?_
   refine T.region ?_
   refine TL.c (Step.lit (e := 5) (z := 1) (by_ := 1) (xs := []) (pss := []) (es := []) (ss := []) (d := (.ints .u8 [])) rfl rfl (lt_ok rfl) (by kernel_rfl) rfl rfl .nil (by simp) (le_ok rfl) (le_ok rfl) rfl .nil rfl (by simp) (by simp) rfl trivial rfl rfl) ?_
   refine TL.as (.one (.row 25 [])) ?_
   refine TL.nil ?_
   refine T.seq ?_
   refine T.seq ?_
   refine T.region ?_
   refine TL.mv (.one (.row 600003 [])) ?_
   refine TL.c (Step.len (e := 3) (z := 1) (d := (.ints .i64 (hN (shaPad b) i))) rfl rfl (lt_ok rfl) (by kernel_rfl) rfl rfl) ?_
   refine TL.mv (pI 0) ?_
   refine TL.nil ?_
   refine T.block ?_
   refine T.loop (ι := Nat) (fun xx_ => { tm := [(2, (.one (.nil))), (26, (.one (.row 600003 []))), (27, (pI ((shaH b).length : Int))), (28, (pI (xx_ : Int))), (6, (.one (.row 25 [])))], rows := [(600003, (3, (.ints .i64 (shaH b)))), (25, (5, (.ints .u8 (outB (shaH b) xx_))))], boxes := [] }) (fun xx_ => xx_ ≤ (shaH b).length) (fun xx_ => (shaH b).length - xx_) 0 ?_ ?_ ?_
   · refine Env.le_mk ⟨rfl, rfl, ?_, ?_, rfl, trivial⟩ ⟨?_, ?_, trivial⟩ trivial <;> (first | rfl | (refine congrArg (fun x => some (_, D.ints .i64 x)) ?_; unfold shaH; rw [show i = (shaPad b).length / 64 from by omega]) | (refine congrArg (fun n => PV.one (.d (.int .i64 n))) ?_; first | rfl | omega | (unfold shaH; rw [show i = (shaPad b).length / 64 from by omega]; first | done | rfl) | (simp; done)))
   · exact Nat.zero_le _
   ·
    intro i hx
    try dsimp only at hx ⊢
    have hl_ := outB_len (shaH b) i
    have hh_ : (shaH b).length ≤ 8 := hN_len _ _
    refine T.seq ?_
    refine T.region ?_
    refine TL.c (Step.bin rfl rfl (lt_ok rfl) rfl rfl (Bin.lss (k := .i64) (a := (i : Int)) (b := ((shaH b).length : Int)))) ?_
    refine TL.nil ?_
    refine T.seq ?_
    refine T.cond (b := decide ((i : Int) < ((shaH b).length : Int))) rfl (fun h4 => ?_) (fun h4 => ?_)
    ·
     replace h4 := of_decide_eq_true h4
     refine T.skip ?_
     refine T.seq ?_
     refine T.block ?_
     refine T.seq ?_
     refine T.region ?_
     refine TL.c (Step.index_row (e := 3) (z := 1) (i := (i : Int)) rfl rfl (lt_ok rfl) (by kernel_rfl) rfl rfl rfl rfl (lt_ok rfl) rfl (by first | omega | (simp; omega)) (by simp only [D.at_, D.cell, D.size]; first | omega | (simp; omega))) ?_
     refine TL.c (Step.load_row (c := cI ((shaH b).getD i 0)) rfl rfl (lt_ok rfl) (by kernel_rfl) rfl rfl rfl) ?_
     refine TL.as (pI ((shaH b).getD i 0)) ?_
     refine TL.nil ?_
     refine T.region ?_
     refine TL.mv (.one (.row 25 [])) ?_
     refine TL.mv (pI ((shaH b).getD i 0)) ?_
     refine TL.c (Step.bin (r := .int .i64 (bshr ((shaH b).getD i 0) 24)) rfl rfl (lt_ok rfl) rfl rfl (Bin.shr (k := .i64) (k' := .u64) (a := ((shaH b).getD i 0)) (b := 24) (by first | omega | (simp; omega)) (rfl))) ?_
     refine TL.c (Step.conv (c := ((bshr ((shaH b).getD i 0) 24) % 256)) rfl rfl (lt_ok rfl) (by kernel_rfl) (by kernel_rfl) rfl (wrap_byte _)) ?_
     refine TL.mv (pI ((shaH b).getD i 0)) ?_
     refine TL.c (Step.bin (r := .int .i64 (bshr ((shaH b).getD i 0) 16)) rfl rfl (lt_ok rfl) rfl rfl (Bin.shr (k := .i64) (k' := .u64) (a := ((shaH b).getD i 0)) (b := 16) (by first | omega | (simp; omega)) (rfl))) ?_
     refine TL.c (Step.conv (c := ((bshr ((shaH b).getD i 0) 16) % 256)) rfl rfl (lt_ok rfl) (by kernel_rfl) (by kernel_rfl) rfl (wrap_byte _)) ?_
     refine TL.mv (pI ((shaH b).getD i 0)) ?_
     refine TL.c (Step.bin (r := .int .i64 (bshr ((shaH b).getD i 0) 8)) rfl rfl (lt_ok rfl) rfl rfl (Bin.shr (k := .i64) (k' := .u64) (a := ((shaH b).getD i 0)) (b := 8) (by first | omega | (simp; omega)) (rfl))) ?_
     refine TL.c (Step.conv (c := ((bshr ((shaH b).getD i 0) 8) % 256)) rfl rfl (lt_ok rfl) (by kernel_rfl) (by kernel_rfl) rfl (wrap_byte _)) ?_
     refine TL.mv (pI ((shaH b).getD i 0)) ?_
     refine TL.c (Step.conv (c := (((shaH b).getD i 0) % 256)) rfl rfl (lt_ok rfl) (by kernel_rfl) (by kernel_rfl) rfl (wrap_byte _)) ?_
     refine TL.c (Step.lit (e := 5) (z := 1) (by_ := 1) (xs := [.tmp 35, .tmp 38, .tmp 41, .tmp 43]) (pss := [[.d (.int .u8 ((bshr ((shaH b).getD i 0) 24) % 256))], [.d (.int .u8 ((bshr ((shaH b).getD i 0) 16) % 256))], [.d (.int .u8 ((bshr ((shaH b).getD i 0) 8) % 256))], [.d (.int .u8 (((shaH b).getD i 0) % 256))]]) (es := [(.int .u8 ((bshr ((shaH b).getD i 0) 24) % 256)), (.int .u8 ((bshr ((shaH b).getD i 0) 16) % 256)), (.int .u8 ((bshr ((shaH b).getD i 0) 8) % 256)), (.int .u8 (((shaH b).getD i 0) % 256))]) (ss := []) (d := (.ints .u8 [(bshr ((shaH b).getD i 0) 24) % 256, (bshr ((shaH b).getD i 0) 16) % 256, (bshr ((shaH b).getD i 0) 8) % 256, ((shaH b).getD i 0) % 256])) rfl rfl (lt_ok rfl) (by kernel_rfl) rfl rfl (.cons rfl (.cons rfl (.cons rfl (.cons rfl .nil)))) (by simp) (le_ok rfl) (le_ok rfl) rfl (.val rfl (.val rfl (.val rfl (.val rfl .nil)))) rfl (by simp) (by simp) rfl trivial rfl rfl) ?_
     refine TL.c (Step.append (e := 5) (z := 1) (by_ := 1) (d := (.ints .u8 (outB (shaH b) i))) (dy := (.ints .u8 [(bshr ((shaH b).getD i 0) 24) % 256, (bshr ((shaH b).getD i 0) 16) % 256, (bshr ((shaH b).getD i 0) 8) % 256, ((shaH b).getD i 0) % 256])) (d' := (.ints .u8 ((outB (shaH b) i) ++ [(bshr ((shaH b).getD i 0) 24) % 256, (bshr ((shaH b).getD i 0) 16) % 256, (bshr ((shaH b).getD i 0) 8) % 256, ((shaH b).getD i 0) % 256]))) (ss := []) rfl rfl (lt_ok rfl) (by kernel_rfl) rfl rfl rfl (lt_ok rfl) rfl (.copy rfl rfl rfl (by simp [D.flat, D.val])) (by simp) rfl (by simp only [D.size, List.length_map]; first | omega | (simp only [List.length_append, List.length_cons, List.length_nil]; omega) | (simp; omega) | (simp only [List.length_append] at *; omega)) (by simp only [D.size, List.length_map]; first | omega | (simp only [List.length_append, List.length_cons, List.length_nil]; omega) | (simp; omega) | (simp only [List.length_append] at *; omega)) (by simp)) ?_
     refine TL.as (.one (.row 25 [])) ?_
     refine TL.nil ?_
     refine T.region ?_
     refine TL.c (Step.bin (r := .int .i64 ((i : Int) + 1)) rfl rfl (lt_ok rfl) rfl rfl (Bin.add (a := (i : Int)) (b := 1) (by first | exact wrap_ok (by first | omega | (simp; omega)) (by first | omega | (simp; omega)) | rfl))) ?_
     refine TL.mv (pI ((i : Int) + 1)) ?_
     refine TL.nil ?_
     refine ⟨i + 1, by omega, by first | omega | (dsimp only; omega), Env.le_mk ⟨rfl, rfl, rfl, ?_, rfl, trivial⟩ ⟨rfl, ?_, trivial⟩ trivial⟩ <;> (first | rfl | (refine congrArg (fun x => some (_, D.ints .i64 x)) ?_; unfold shaH; rw [show i = (shaPad b).length / 64 from by omega]) | (refine congrArg (fun n => PV.one (.d (.int .i64 n))) ?_; first | rfl | omega | (unfold shaH; rw [show i = (shaPad b).length / 64 from by omega]; first | done | rfl) | (simp; done)))
    ·
     replace h4 := of_decide_eq_false h4
     refine T.exit ?_
     refine T.seq ?_
     refine T.region ?_
     refine TL.mv (.one (.row 25 [])) ?_
     refine TL.as (.one (.row 25 [])) ?_
     refine TL.nil ?_
     refine T.ret ?_
     refine ⟨[(false, [.row 25 []])], (.cons rfl .nil), rfl, [25], (RetC.own' rfl ?_ rfl .nil)⟩ <;> ((congr 1; unfold sha; rw [show i = (shaH b).length from by omega]))
theorem ok_spec_LeafHash (x : List Int) (h0_ : U8s x) (h1_ : x.length ≤ 17592186030000) : RO Try.prog 62 [.one (.ints .u8 x)] [(false, [.own 5 (.ints .u8 (leafHash x))])] := by
 refine RO.intro Try.func62 rfl 7 rfl (le_ok rfl) fun w Z => ?_
 refine T.bnd 0 0 rfl rfl fun hb_0_0 => ?_
 simp only [D.size, List.length_map] at hb_0_0
 refine T.seq ?_
 refine T.region ?_
 refine TL.as (.one (.nil)) ?_
 refine TL.nil ?_
 refine T.seq ?_
 refine T.region ?_
 refine TL.c (Step.lit (e := 5) (z := 1) (by_ := 1) (xs := [.const (.int .u8 0)]) (pss := [[.d (.int .u8 0)]]) (es := [(.int .u8 0)]) (ss := []) (d := (.ints .u8 [0])) rfl rfl (lt_ok rfl) (by kernel_rfl) rfl rfl (.cons rfl .nil) (by simp) (le_ok rfl) (le_ok rfl) rfl (.val rfl .nil) rfl (by simp) (by simp) rfl trivial rfl rfl) ?_
 refine TL.mv (pS x) ?_
 refine TL.c (Step.append (e := 5) (z := 1) (by_ := 1) (d := (.ints .u8 [0])) (dy := (.ints .u8 x)) (d' := (.ints .u8 ([0] ++ x))) (ss := []) rfl rfl (lt_ok rfl) (by kernel_rfl) rfl rfl rfl (lt_ok rfl) rfl (.froz rfl (by simp [D.flat, D.val])) (by simp) rfl (by simp only [D.size, List.length_map]; first | omega | (simp only [List.length_append, List.length_cons, List.length_nil]; omega) | (simp; omega) | (simp only [List.length_append] at *; omega)) (by simp only [D.size, List.length_map]; first | omega | (simp only [List.length_append, List.length_cons, List.length_nil]; omega) | (simp; omega) | (simp only [List.length_append] at *; omega)) (by simp)) ?_
 have nn1 := sha_len ([0] ++ x)
 have nn2 := sha_u8 ([0] ++ x)
 refine TL.c (Step.cl (xs := [.tmp 5]) (ps := [(.one (.row 3 []))]) (g := .func 89) false (.cons (.one (.row rfl rfl rfl rfl)) .nil) (ok_spec_Sha ([0] ++ x) (by first | assumption | exact sha_u8 _ | exact treeRoot_u8 _ | exact nodeHash_u8 _ _ | exact leafHash_u8 _ | exact u8_cons (by decide) (by assumption) | exact mem_getD (p := U8s) (by assumption) (by omega) | exact u8_app (u8_cons (by decide) (by assumption)) (by assumption) | exact fun x hx => by cases hx | exact putHead_u8 u8_72 (by assumption)) (by first | omega | assumption | (simp only [List.length_append] at *; omega) | (simp; done) | (simp; omega)))) ?_
 refine TL.as (.one (.row 1006 [])) ?_
 refine TL.nil ?_
 refine T.ret ?_
 refine ⟨[(false, [.row 1006 []])], (.cons rfl .nil), rfl, [1006], (RetC.own' rfl ?_ rfl .nil)⟩ <;> (rfl)
theorem ok_spec_NodeHash (a : List Int) (b : List Int) (h0_ : U8s a) (h1_ : U8s b) (h2_ : a.length ≤ 1048576) (h3_ : b.length ≤ 1048576) : RO Try.prog 90 [.one (.ints .u8 a), .one (.ints .u8 b)] [(false, [.own 5 (.ints .u8 (nodeHash a b))])] := by
 refine RO.intro Try.func90 rfl 13 rfl (le_ok rfl) fun w Z => ?_
 refine T.bnd 0 0 rfl rfl fun hb_0_0 => ?_
 simp only [D.size, List.length_map] at hb_0_0
 refine T.bnd 1 0 rfl rfl fun hb_1_0 => ?_
 simp only [D.size, List.length_map] at hb_1_0
 refine T.seq ?_
 refine T.region ?_
 refine TL.as (.one (.nil)) ?_
 refine TL.nil ?_
 refine T.seq ?_
 refine T.region ?_
 refine TL.c (Step.lit (e := 5) (z := 1) (by_ := 1) (xs := [.const (.int .u8 1)]) (pss := [[.d (.int .u8 1)]]) (es := [(.int .u8 1)]) (ss := []) (d := (.ints .u8 [1])) rfl rfl (lt_ok rfl) (by kernel_rfl) rfl rfl (.cons rfl .nil) (by simp) (le_ok rfl) (le_ok rfl) rfl (.val rfl .nil) rfl (by simp) (by simp) rfl trivial rfl rfl) ?_
 refine TL.mv (pS a) ?_
 refine TL.c (Step.append (e := 5) (z := 1) (by_ := 1) (d := (.ints .u8 [1])) (dy := (.ints .u8 a)) (d' := (.ints .u8 ([1] ++ a))) (ss := []) rfl rfl (lt_ok rfl) (by kernel_rfl) rfl rfl rfl (lt_ok rfl) rfl (.froz rfl (by simp [D.flat, D.val])) (by simp) rfl (by simp only [D.size, List.length_map]; first | omega | (simp only [List.length_append, List.length_cons, List.length_nil]; omega) | (simp; omega) | (simp only [List.length_append] at *; omega)) (by simp only [D.size, List.length_map]; first | omega | (simp only [List.length_append, List.length_cons, List.length_nil]; omega) | (simp; omega) | (simp only [List.length_append] at *; omega)) (by simp)) ?_
 refine TL.as (.one (.row 6 [])) ?_
 refine TL.nil ?_
 refine T.seq ?_
 refine T.region ?_
 refine TL.mv (.one (.row 6 [])) ?_
 refine TL.mv (pS b) ?_
 refine TL.c (Step.append (e := 5) (z := 1) (by_ := 1) (d := (.ints .u8 ([1] ++ a))) (dy := (.ints .u8 b)) (d' := (.ints .u8 (([1] ++ a) ++ b))) (ss := []) rfl rfl (lt_ok rfl) (by kernel_rfl) rfl rfl rfl (lt_ok rfl) rfl (.froz rfl (by simp [D.flat, D.val])) (by simp) rfl (by simp only [D.size, List.length_map]; first | omega | (simp only [List.length_append, List.length_cons, List.length_nil]; omega) | (simp; omega) | (simp only [List.length_append] at *; omega)) (by simp only [D.size, List.length_map]; first | omega | (simp only [List.length_append, List.length_cons, List.length_nil]; omega) | (simp; omega) | (simp only [List.length_append] at *; omega)) (by simp)) ?_
 have nn1 := sha_len (([1] ++ a) ++ b)
 have nn2 := sha_u8 (([1] ++ a) ++ b)
 refine TL.c (Step.cl (xs := [.tmp 11]) (ps := [(.one (.row 6 []))]) (g := .func 89) false (.cons (.one (.row rfl rfl rfl rfl)) .nil) (ok_spec_Sha (([1] ++ a) ++ b) (by first | assumption | exact sha_u8 _ | exact treeRoot_u8 _ | exact nodeHash_u8 _ _ | exact leafHash_u8 _ | exact u8_cons (by decide) (by assumption) | exact mem_getD (p := U8s) (by assumption) (by omega) | exact u8_app (u8_cons (by decide) (by assumption)) (by assumption) | exact fun x hx => by cases hx | exact putHead_u8 u8_72 (by assumption)) (by first | omega | assumption | (simp only [List.length_append] at *; omega) | (simp; done) | (simp; omega)))) ?_
 refine TL.as (.one (.row 1012 [])) ?_
 refine TL.nil ?_
 refine T.ret ?_
 refine ⟨[(false, [.row 1012 []])], (.cons rfl .nil), rfl, [1012], (RetC.own' rfl ?_ rfl .nil)⟩ <;> (rfl)
theorem ok_spec_TreeRoot_r (d_ : Nat) : ∀ (l : List (List Int)) (hd_ : l.length = d_) (h0_ : ∀ y ∈ l, U8s y) (h1_ : ∀ y ∈ l, y.length ≤ 1048576), RO Try.prog 61 [.one (.bss l)] [(false, [.own 5 (.ints .u8 (treeRoot l))])] := by
 refine Nat.strongRecOn d_ ?_
 intro d_ ih l hd_ h0_ h1_
 subst hd_
 refine RO.intro Try.func61 rfl 27 rfl (le_ok rfl) fun w Z => ?_
 refine T.bnd 0 0 rfl rfl fun hb_0_0 => ?_
 simp only [D.size, List.length_map] at hb_0_0
 have hsb_ := splitAtT_bd (l.length : Int)
 have hsl_ := splitAtT_le (l.length : Int)
 have hpt_ := part_len l
 have hy_ := mem_len h1_ 0
 refine T.seq ?_
 refine T.region ?_
 refine TL.as (.one (.nil)) ?_
 refine TL.nil ?_
 refine T.seq ?_
 refine T.seq ?_
 refine T.region ?_
 refine TL.mv (.one (.d (.bss l))) ?_
 refine TL.c (Step.len (e := 22) (z := 1) (d := (.bss l)) rfl rfl (lt_ok rfl) (by kernel_rfl) rfl rfl) ?_
 refine TL.c (Step.bin rfl rfl (lt_ok rfl) rfl rfl (Bin.eql (k := .i64) (a := (l.length : Int)) (b := 0))) ?_
 refine TL.nil ?_
 refine T.cond (b := decide ((l.length : Int) = 0)) rfl (fun h1 => ?_) (fun h1 => ?_)
 ·
  replace h1 := of_decide_eq_true h1
  refine T.seq ?_
  refine T.region ?_
  have nn2 := sha_len []
  have nn3 := sha_u8 []
  refine TL.c (Step.cl (xs := [.const (.slice none 0 0)]) (ps := [(.one (.nil))]) (g := .func 89) false (.cons (.one (.nil rfl rfl (by first | exact trivial | exact D.wf_nil _))) .nil) (ok_spec_Sha [] (by first | assumption | exact sha_u8 _ | exact treeRoot_u8 _ | exact nodeHash_u8 _ _ | exact leafHash_u8 _ | exact u8_cons (by decide) (by assumption) | exact mem_getD (p := U8s) (by assumption) (by omega) | exact u8_app (u8_cons (by decide) (by assumption)) (by assumption) | exact fun x hx => by cases hx | exact putHead_u8 u8_72 (by assumption)) (by first | omega | assumption | (simp only [List.length_append] at *; omega) | (simp; done) | (simp; omega)))) ?_
  refine TL.as (.one (.row 1007 [])) ?_
  refine TL.nil ?_
  refine T.ret ?_
  refine ⟨[(false, [.row 1007 []])], (.cons rfl .nil), rfl, [1007], (RetC.own' rfl ?_ rfl .nil)⟩ <;> ((congr 1; first | (rw [treeRoot_nil (l := l) (by omega)]; done) | (rw [treeRoot_one (l := l) (by omega)]; done) | (rw [treeRoot_two (l := l) (by omega) (by omega)]; done)))
 ·
  replace h1 := of_decide_eq_false h1
  refine T.skip ?_
  refine T.seq ?_
  refine T.seq ?_
  refine T.region ?_
  refine TL.mv (.one (.d (.bss l))) ?_
  refine TL.c (Step.len (e := 22) (z := 1) (d := (.bss l)) rfl rfl (lt_ok rfl) (by kernel_rfl) rfl rfl) ?_
  refine TL.c (Step.bin rfl rfl (lt_ok rfl) rfl rfl (Bin.eql (k := .i64) (a := (l.length : Int)) (b := 1))) ?_
  refine TL.nil ?_
  refine T.cond (b := decide ((l.length : Int) = 1)) rfl (fun h4 => ?_) (fun h4 => ?_)
  ·
   replace h4 := of_decide_eq_true h4
   refine T.seq ?_
   refine T.region ?_
   refine TL.mv (.one (.d (.bss l))) ?_
   refine TL.c (Step.index (e := 22) (z := 1) (i := 0) rfl rfl (lt_ok rfl) (by kernel_rfl) rfl rfl rfl (lt_ok rfl) rfl (by first | omega | (simp; omega)) (by simp only [D.size]; first | omega | (simp; omega))) ?_
   refine TL.c (Step.load (e := (.ints .u8 (l.getD 0 []))) rfl rfl (lt_ok rfl) (by kernel_rfl) rfl rfl) ?_
   have nn5 := leafHash_len (l.getD 0 [])
   have nn6 := leafHash_u8 (l.getD 0 [])
   refine TL.c (Step.cl (xs := [.tmp 13]) (ps := [(pS (l.getD 0 []))]) (g := .func 62) false (.cons (.one (.d _)) .nil) (ok_spec_LeafHash (l.getD 0 []) (by first | assumption | exact sha_u8 _ | exact treeRoot_u8 _ | exact nodeHash_u8 _ _ | exact leafHash_u8 _ | exact u8_cons (by decide) (by assumption) | exact mem_getD (p := U8s) (by assumption) (by omega) | exact u8_app (u8_cons (by decide) (by assumption)) (by assumption) | exact fun x hx => by cases hx) (by first | omega | assumption | (simp only [List.length_append] at *; omega)))) ?_
   refine TL.as (.one (.row 1014 [])) ?_
   refine TL.nil ?_
   refine T.ret ?_
   refine ⟨[(false, [.row 1014 []])], (.cons rfl .nil), rfl, [1014], (RetC.own' rfl ?_ rfl .nil)⟩ <;> ((congr 1; first | (rw [treeRoot_nil (l := l) (by omega)]; done) | (rw [treeRoot_one (l := l) (by omega)]; done) | (rw [treeRoot_two (l := l) (by omega) (by omega)]; done)))
  ·
   replace h4 := of_decide_eq_false h4
   refine T.skip ?_
   refine T.seq ?_
   refine T.region ?_
   refine TL.mv (.one (.d (.bss l))) ?_
   refine TL.c (Step.len (e := 22) (z := 1) (d := (.bss l)) rfl rfl (lt_ok rfl) (by kernel_rfl) rfl rfl) ?_
   have nn7 := splitAtT_bd (l.length : Int)
   refine TL.c (Step.cl (xs := [.tmp 16]) (ps := [(pI (l.length : Int))]) (g := .func 60) false (.cons (.one (.d _)) .nil) (ok_spec_SplitAt (l.length : Int) (by first | omega | assumption | (simp only [List.length_append] at *; omega)))) ?_
   refine TL.as (pI (splitAtT (l.length : Int))) ?_
   refine TL.nil ?_
   refine T.seq ?_
   have nn8 := treeRoot_len ((l.drop 0).take ((splitAtT (l.length : Int)).toNat - 0))
   have nn9 := treeRoot_u8 ((l.drop 0).take ((splitAtT (l.length : Int)).toNat - 0))
   have nn10 := treeRoot_len ((l.drop (splitAtT (l.length : Int)).toNat).take (l.length - (splitAtT (l.length : Int)).toNat))
   have nn11 := treeRoot_u8 ((l.drop (splitAtT (l.length : Int)).toNat).take (l.length - (splitAtT (l.length : Int)).toNat))
   have nn12 := nodeHash_len (treeRoot ((l.drop 0).take ((splitAtT (l.length : Int)).toNat - 0))) (treeRoot ((l.drop (splitAtT (l.length : Int)).toNat).take (l.length - (splitAtT (l.length : Int)).toNat)))
   have nn13 := nodeHash_u8 (treeRoot ((l.drop 0).take ((splitAtT (l.length : Int)).toNat - 0))) (treeRoot ((l.drop (splitAtT (l.length : Int)).toNat).take (l.length - (splitAtT (l.length : Int)).toNat)))
   refine T.draw [⟨18, (.one (.d (.bss l))), []⟩, ⟨19, (pI (splitAtT (l.length : Int))), []⟩, ⟨20, (.one (.d (.bss ((l.drop 0).take ((splitAtT (l.length : Int)).toNat - 0))))), []⟩, ⟨21, (.one (.row 1021 [])), [(1021, (5, (.ints .u8 (treeRoot ((l.drop 0).take ((splitAtT (l.length : Int)).toNat - 0))))))]⟩, ⟨22, (.one (.d (.bss l))), []⟩, ⟨23, (pI (splitAtT (l.length : Int))), []⟩, ⟨24, (.one (.d (.bss ((l.drop (splitAtT (l.length : Int)).toNat).take (l.length - (splitAtT (l.length : Int)).toNat))))), []⟩, ⟨25, (.one (.row 1025 [])), [(1025, (5, (.ints .u8 (treeRoot ((l.drop (splitAtT (l.length : Int)).toNat).take (l.length - (splitAtT (l.length : Int)).toNat))))))]⟩, ⟨26, (.one (.row 1026 [])), [(1026, (5, (.ints .u8 (nodeHash (treeRoot ((l.drop 0).take ((splitAtT (l.length : Int)).toNat - 0))) (treeRoot ((l.drop (splitAtT (l.length : Int)).toNat).take (l.length - (splitAtT (l.length : Int)).toNat)))))))]⟩, ⟨2, (.one (.row 1026 [])), []⟩] (by kernel_rfl) (by kernel_rfl) ?_ ?_
   ·
    refine .cons (fun E A => A.mv 0 18) ?_
    refine .cons (fun E A => A.mv 3 19) ?_
    refine .cons (fun E A => OpStep.plain rfl (Step.slice (e := 22) (z := 1) (l := 0) (h := (splitAtT (l.length : Int)).toNat) (t := 20) rfl rfl (by exact lt_ok rfl) (by kernel_rfl) (A.g 18 rfl) rfl rfl (.none _) ((.some (i := (splitAtT (l.length : Int))) (A.g 19 rfl) (by first | omega | (simp; omega)))) (by first | omega | (simp; omega)) (by simp only [D.size]; first | omega | (simp; omega)) rfl)) ?_
    refine .cons (fun E A => OpStep.plain rfl (Step.call (f := 61) (xs := [.tmp 20]) (ps := [(.one (.d (.bss ((l.drop 0).take ((splitAtT (l.length : Int)).toNat - 0)))))]) false (g := .func 61) (t := 21) rfl rfl (by exact lt_ok rfl) rfl (by kernel_rfl) (evs_cons (A.g 20 rfl) (rfl)) (.cons (.one (.d _)) .nil) (ih ((l.drop 0).take ((splitAtT (l.length : Int)).toNat - 0)).length (by omega) ((l.drop 0).take ((splitAtT (l.length : Int)).toNat - 0)) rfl (by first | assumption | exact mem_sub (by assumption) _ _ | exact s0.2 | exact o1) (by first | assumption | exact mem_sub (by assumption) _ _ | exact s0.2 | exact s1.2)) (.inr rfl) (At.freshRows A rfl) (by simp) rfl)) ?_
    refine .cons (fun E A => A.mv 0 22) ?_
    refine .cons (fun E A => A.mv 3 23) ?_
    refine .cons (fun E A => OpStep.plain rfl (Step.slice (e := 22) (z := 1) (l := (splitAtT (l.length : Int)).toNat) (h := l.length) (t := 24) rfl rfl (by exact lt_ok rfl) (by kernel_rfl) (A.g 22 rfl) rfl rfl ((.some (i := (splitAtT (l.length : Int))) (A.g 23 rfl) (by first | omega | (simp; omega)))) (.none _) (by first | omega | (simp; omega)) (by simp only [D.size]; first | omega | (simp; omega)) rfl)) ?_
    refine .cons (fun E A => OpStep.plain rfl (Step.call (f := 61) (xs := [.tmp 24]) (ps := [(.one (.d (.bss ((l.drop (splitAtT (l.length : Int)).toNat).take (l.length - (splitAtT (l.length : Int)).toNat)))))]) false (g := .func 61) (t := 25) rfl rfl (by exact lt_ok rfl) rfl (by kernel_rfl) (evs_cons (A.g 24 rfl) (rfl)) (.cons (.one (.d _)) .nil) (ih ((l.drop (splitAtT (l.length : Int)).toNat).take (l.length - (splitAtT (l.length : Int)).toNat)).length (by omega) ((l.drop (splitAtT (l.length : Int)).toNat).take (l.length - (splitAtT (l.length : Int)).toNat)) rfl (by first | assumption | exact mem_sub (by assumption) _ _ | exact s0.2 | exact o1) (by first | assumption | exact mem_sub (by assumption) _ _ | exact s0.2 | exact s1.2)) (.inr rfl) (At.freshRows A rfl) (by simp) rfl)) ?_
    refine .cons (fun E A => OpStep.plain rfl (Step.cd (xs := [.tmp 21, .tmp 25]) (ps := [(.one (.row 1021 [])), (.one (.row 1025 []))]) (g := .func 90) false 26 (evs_cons (A.g 21 rfl) (evs_cons (A.g 25 rfl) (rfl))) (.cons (.one (.row rfl (by exact (A.row 1021 (by kernel_rfl)).trans rfl) rfl rfl)) (.cons (.one (.row rfl (by exact (A.row 1025 (by kernel_rfl)).trans rfl) rfl rfl)) .nil)) (ok_spec_NodeHash (treeRoot ((l.drop 0).take ((splitAtT (l.length : Int)).toNat - 0))) (treeRoot ((l.drop (splitAtT (l.length : Int)).toNat).take (l.length - (splitAtT (l.length : Int)).toNat))) (by first | assumption | exact sha_u8 _ | exact treeRoot_u8 _ | exact nodeHash_u8 _ _ | exact leafHash_u8 _ | exact u8_cons (by decide) (by assumption) | exact mem_getD (p := U8s) (by assumption) (by omega) | exact u8_app (u8_cons (by decide) (by assumption)) (by assumption) | exact fun x hx => by cases hx) (by first | assumption | exact sha_u8 _ | exact treeRoot_u8 _ | exact nodeHash_u8 _ _ | exact leafHash_u8 _ | exact u8_cons (by decide) (by assumption) | exact mem_getD (p := U8s) (by assumption) (by omega) | exact u8_app (u8_cons (by decide) (by assumption)) (by assumption) | exact fun x hx => by cases hx) (by first | omega | assumption | (simp only [List.length_append] at *; omega)) (by first | omega | assumption | (simp only [List.length_append] at *; omega))) (At.freshRows A rfl))) ?_
    refine .cons (fun E A => A.as 26 2) ?_
    exact .nil _ _
   refine TL.nil ?_
   refine T.ret ?_
   refine ⟨[(false, [.row 1026 []])], (.cons rfl .nil), rfl, [1026], (RetC.own' rfl ?_ rfl .nil)⟩ <;> ((congr 1; first | (rw [treeRoot_nil (l := l) (by omega)]; done) | (rw [treeRoot_one (l := l) (by omega)]; done) | (rw [treeRoot_two (l := l) (by omega) (by omega)]; done)))
theorem ok_spec_TreeRoot (l : List (List Int)) (h0_ : ∀ y ∈ l, U8s y) (h1_ : ∀ y ∈ l, y.length ≤ 1048576) : RO Try.prog 61 [.one (.bss l)] [(false, [.own 5 (.ints .u8 (treeRoot l))])] := ok_spec_TreeRoot_r _ l rfl h0_ h1_
theorem ok_spec_PathOf_r (d_ : Nat) : ∀ (l : List (List Int)) (i : Int) (hd_ : l.length = d_) (h0_ : ∀ y ∈ l, U8s y) (h1_ : ∀ y ∈ l, y.length ≤ 1048576) (h2_ : I64 i) (h3_ : l.length ≤ 1048576), RO Try.prog 20 [.one (.bss l), .one (.int .i64 i)] [(false, [.own 22 (.bss (pathOf l i))]), (false, [.rd (.bool (decide (0 ≤ i ∧ i ≤ (l.length : Int) - 1)))])] := by
 refine Nat.strongRecOn d_ ?_
 intro d_ ih l i hd_ h0_ h1_ h2_ h3_
 subst hd_
 refine RO.intro Try.func20 rfl 58 rfl (le_ok rfl) fun w Z => ?_
 refine T.bnd 0 0 rfl rfl fun hb_0_0 => ?_
 simp only [D.size, List.length_map] at hb_0_0
 have hsb_ := splitAtT_bd (l.length : Int)
 have hsl_ := splitAtT_le (l.length : Int)
 have hpt_ := part_len l
 have hi_ := h2_
 unfold I64 at hi_
 refine T.seq ?_
 refine T.region ?_
 refine TL.as (.one (.nil)) ?_
 refine TL.as (pB false) ?_
 refine TL.nil ?_
 refine T.seq ?_
 refine T.seq ?_
 refine T.region ?_
 refine TL.mv (pI i) ?_
 refine TL.mv (.one (.d (.bss l))) ?_
 refine TL.c (Step.len (e := 22) (z := 1) (d := (.bss l)) rfl rfl (lt_ok rfl) (by kernel_rfl) rfl rfl) ?_
 refine TL.c (Step.bin (r := .int .i64 ((l.length : Int) - 1)) rfl rfl (lt_ok rfl) rfl rfl (Bin.sub (a := (l.length : Int)) (b := 1) (by first | exact wrap_ok (by first | omega | (simp; omega)) (by first | omega | (simp; omega)) | rfl))) ?_
 refine TL.c (Step.cl (xs := [.tmp 11, .const (.int .i64 0), .tmp 14]) (ps := [(pI i), (pI 0), (pI ((l.length : Int) - 1))]) (g := .func 59) false (.cons (.one (.d _)) (.cons (.one (.d _)) (.cons (.one (.d _)) .nil))) (ok_spec_l01In i 0 ((l.length : Int) - 1))) ?_
 refine TL.c (Step.not (b := (decide (0 ≤ i ∧ i ≤ ((l.length : Int) - 1)))) rfl rfl (lt_ok rfl) rfl) ?_
 refine TL.nil ?_
 refine T.cond (b := !(decide (0 ≤ i ∧ i ≤ ((l.length : Int) - 1)))) rfl (fun h1 => ?_) (fun h1 => ?_)
 ·
  replace h1 : (decide (0 ≤ i ∧ i ≤ ((l.length : Int) - 1))) = false := by simpa only [Bool.not_eq_true', Bool.not_eq_false'] using h1
  replace h1 := of_decide_eq_false h1
  refine T.seq ?_
  refine T.region ?_
  refine TL.as (.one (.nil)) ?_
  refine TL.as (pB false) ?_
  refine TL.nil ?_
  refine T.ret ?_
  refine ⟨[(false, [.nil]), (false, [.d (.bool false)])], (.cons rfl (.cons rfl .nil)), rfl, [], (RetC.nilown' rfl ?_ (by first | exact trivial | exact D.wf_nil _) (RetC.rd' ?_ .nil))⟩ <;> (first | (congr 1; first | (rw [pathOf_no (l := l) (i := i) (by omega)]; done) | (rw [pathOf_one (l := l) (i := i) (by omega)]; done) | (rw [pathOf_left (l := l) (i := i) (by omega) (by omega) (by omega)]; done) | (rw [pathOf_right (l := l) (i := i) (by omega) (by omega) (by omega)]; done) | (symm; exact decide_eq_true (by omega)) | (symm; exact decide_eq_false (by omega))) | (simp only [D.size]; first | (rw [pathOf_no (l := l) (i := i) (by omega)]; rfl) | (rw [pathOf_one (l := l) (i := i) (by omega)]; rfl)))
 ·
  replace h1 : (decide (0 ≤ i ∧ i ≤ ((l.length : Int) - 1))) = true := by simpa only [Bool.not_eq_true', Bool.not_eq_false'] using h1
  replace h1 := of_decide_eq_true h1
  refine T.skip ?_
  refine T.seq ?_
  refine T.seq ?_
  refine T.region ?_
  refine TL.mv (.one (.d (.bss l))) ?_
  refine TL.c (Step.len (e := 22) (z := 1) (d := (.bss l)) rfl rfl (lt_ok rfl) (by kernel_rfl) rfl rfl) ?_
  refine TL.c (Step.bin rfl rfl (lt_ok rfl) rfl rfl (Bin.eql (k := .i64) (a := (l.length : Int)) (b := 1))) ?_
  refine TL.nil ?_
  refine T.cond (b := decide ((l.length : Int) = 1)) rfl (fun h2 => ?_) (fun h2 => ?_)
  ·
   replace h2 := of_decide_eq_true h2
   refine T.seq ?_
   refine T.region ?_
   refine TL.as (.one (.nil)) ?_
   refine TL.as (pB true) ?_
   refine TL.nil ?_
   refine T.ret ?_
   refine ⟨[(false, [.nil]), (false, [.d (.bool true)])], (.cons rfl (.cons rfl .nil)), rfl, [], (RetC.nilown' rfl ?_ (by first | exact trivial | exact D.wf_nil _) (RetC.rd' ?_ .nil))⟩ <;> (first | (congr 1; first | (rw [pathOf_no (l := l) (i := i) (by omega)]; done) | (rw [pathOf_one (l := l) (i := i) (by omega)]; done) | (rw [pathOf_left (l := l) (i := i) (by omega) (by omega) (by omega)]; done) | (rw [pathOf_right (l := l) (i := i) (by omega) (by omega) (by omega)]; done) | (symm; exact decide_eq_true (by omega)) | (symm; exact decide_eq_false (by omega))) | (simp only [D.size]; first | (rw [pathOf_no (l := l) (i := i) (by omega)]; rfl) | (rw [pathOf_one (l := l) (i := i) (by omega)]; rfl)))
  ·
   replace h2 := of_decide_eq_false h2
   refine T.skip ?_
   refine T.seq ?_
   refine T.region ?_
   refine TL.mv (.one (.d (.bss l))) ?_
   refine TL.c (Step.len (e := 22) (z := 1) (d := (.bss l)) rfl rfl (lt_ok rfl) (by kernel_rfl) rfl rfl) ?_
   have nn3 := splitAtT_bd (l.length : Int)
   refine TL.c (Step.cl (xs := [.tmp 21]) (ps := [(pI (l.length : Int))]) (g := .func 60) false (.cons (.one (.d _)) .nil) (ok_spec_SplitAt (l.length : Int) (by first | omega | assumption | (simp only [List.length_append] at *; omega)))) ?_
   refine TL.as (pI (splitAtT (l.length : Int))) ?_
   refine TL.nil ?_
   refine T.seq ?_
   refine T.seq ?_
   refine T.region ?_
   refine TL.mv (pI i) ?_
   refine TL.mv (pI (splitAtT (l.length : Int))) ?_
   refine TL.c (Step.bin rfl rfl (lt_ok rfl) rfl rfl (Bin.lss (k := .i64) (a := i) (b := (splitAtT (l.length : Int))))) ?_
   refine TL.nil ?_
   refine T.cond (b := decide (i < (splitAtT (l.length : Int)))) rfl (fun h4 => ?_) (fun h4 => ?_)
   ·
    replace h4 := of_decide_eq_true h4
    refine T.seq ?_
    refine T.region ?_
    refine TL.mv (.one (.d (.bss l))) ?_
    refine TL.mv (pI (splitAtT (l.length : Int))) ?_
    refine TL.c (Step.slice (e := 22) (z := 1) (l := 0) (h := (splitAtT (l.length : Int)).toNat) rfl rfl (lt_ok rfl) (by kernel_rfl) rfl rfl rfl (.none _) ((.some (i := (splitAtT (l.length : Int))) rfl (by first | omega | (simp; omega)))) (by first | omega | (simp; omega)) (by simp only [D.size]; first | omega | (simp; omega)) rfl) ?_
    refine TL.mv (pI i) ?_
    have nn5 := pathOf_len ((l.drop 0).take ((splitAtT (l.length : Int)).toNat - 0)).length ((l.drop 0).take ((splitAtT (l.length : Int)).toNat - 0)) i (Nat.le_refl _)
    refine TL.c (Step.call (f := 20) (xs := [.tmp 29, .tmp 30]) (ps := [(.one (.d (.bss ((l.drop 0).take ((splitAtT (l.length : Int)).toNat - 0))))), (pI i)]) false (g := .func 20) rfl rfl (lt_ok rfl) rfl (by kernel_rfl) rfl (.cons (.one (.d _)) (.cons (.one (.d _)) .nil)) (ih ((l.drop 0).take ((splitAtT (l.length : Int)).toNat - 0)).length (by omega) ((l.drop 0).take ((splitAtT (l.length : Int)).toNat - 0)) i rfl (by first | assumption | exact mem_sub (by assumption) _ _ | exact s0.2 | exact o1) (by first | assumption | exact mem_sub (by assumption) _ _ | exact s0.2 | exact s1.2) (by first | assumption | exact ⟨by omega, by omega⟩) (by first | omega | exact s0.1 | exact s1.1)) (.inr rfl) rfl (by simp) rfl) ?_
    refine TL.mv (.tup [(false, [.row 1031 []]), (false, [.d (.bool (decide (0 ≤ i ∧ i ≤ (((l.drop 0).take ((splitAtT (l.length : Int)).toNat - 0)).length : Int) - 1)))])]) ?_
    refine TL.c (Step.extract (p := (.one (.row 1031 []))) rfl rfl (lt_ok rfl) rfl rfl) ?_
    refine TL.c (Step.extract (p := (pB (decide (0 ≤ i ∧ i ≤ (((l.drop 0).take ((splitAtT (l.length : Int)).toNat - 0)).length : Int) - 1)))) rfl rfl (lt_ok rfl) rfl rfl) ?_
    refine TL.as (.one (.row 1031 [])) ?_
    refine TL.as (pB (decide (0 ≤ i ∧ i ≤ (((l.drop 0).take ((splitAtT (l.length : Int)).toNat - 0)).length : Int) - 1))) ?_
    refine TL.nil ?_
    refine T.seq ?_
    refine T.region ?_
    refine TL.mv (.one (.row 1031 [])) ?_
    refine TL.mv (.one (.d (.bss l))) ?_
    refine TL.mv (pI (splitAtT (l.length : Int))) ?_
    refine TL.c (Step.slice (e := 22) (z := 1) (l := (splitAtT (l.length : Int)).toNat) (h := l.length) rfl rfl (lt_ok rfl) (by kernel_rfl) rfl rfl rfl ((.some (i := (splitAtT (l.length : Int))) rfl (by first | omega | (simp; omega)))) (.none _) (by first | omega | (simp; omega)) (by simp only [D.size]; first | omega | (simp; omega)) rfl) ?_
    have nn6 := treeRoot_len ((l.drop (splitAtT (l.length : Int)).toNat).take (l.length - (splitAtT (l.length : Int)).toNat))
    have nn7 := treeRoot_u8 ((l.drop (splitAtT (l.length : Int)).toNat).take (l.length - (splitAtT (l.length : Int)).toNat))
    refine TL.c (Step.cl (xs := [.tmp 37]) (ps := [(.one (.d (.bss ((l.drop (splitAtT (l.length : Int)).toNat).take (l.length - (splitAtT (l.length : Int)).toNat)))))]) (g := .func 61) false (.cons (.one (.d _)) .nil) (ok_spec_TreeRoot ((l.drop (splitAtT (l.length : Int)).toNat).take (l.length - (splitAtT (l.length : Int)).toNat)) (by first | assumption | exact mem_sub (by assumption) _ _ | exact s0.2 | exact o1) (by first | assumption | exact mem_sub (by assumption) _ _ | exact s0.2 | exact s1.2))) ?_
    refine TL.c (Step.lit (e := 22) (z := 1) (by_ := 24) (xs := [.tmp 38]) (pss := [[.row 1038 []]]) (es := [(.ints .u8 (treeRoot ((l.drop (splitAtT (l.length : Int)).toNat).take (l.length - (splitAtT (l.length : Int)).toNat))))]) (ss := [1038]) (d := (.bss [treeRoot ((l.drop (splitAtT (l.length : Int)).toNat).take (l.length - (splitAtT (l.length : Int)).toNat))])) rfl rfl (lt_ok rfl) (by kernel_rfl) rfl rfl (.cons rfl .nil) (by simp) (le_ok rfl) (le_ok rfl) rfl (.row rfl (by simp) .nil) rfl (by simp) (by simp) rfl trivial rfl rfl) ?_
    refine TL.c (Step.append (e := 22) (z := 1) (by_ := 24) (d := (.bss (pathOf ((l.drop 0).take ((splitAtT (l.length : Int)).toNat - 0)) i))) (dy := (.bss [treeRoot ((l.drop (splitAtT (l.length : Int)).toNat).take (l.length - (splitAtT (l.length : Int)).toNat))])) (d' := (.bss ((pathOf ((l.drop 0).take ((splitAtT (l.length : Int)).toNat - 0)) i) ++ [treeRoot ((l.drop (splitAtT (l.length : Int)).toNat).take (l.length - (splitAtT (l.length : Int)).toNat))]))) (ss := [39]) rfl rfl (lt_ok rfl) (by kernel_rfl) rfl rfl rfl (lt_ok rfl) rfl (.move rfl) (by simp) rfl (by simp only [D.size, List.length_map]; first | omega | (simp only [List.length_append, List.length_cons, List.length_nil]; omega) | (simp; omega) | (simp only [List.length_append] at *; omega)) (by simp only [D.size, List.length_map]; first | omega | (simp only [List.length_append, List.length_cons, List.length_nil]; omega) | (simp; omega) | (simp only [List.length_append] at *; omega)) (by simp)) ?_
    refine TL.as (.one (.row 1031 [])) ?_
    refine TL.as (pB true) ?_
    refine TL.nil ?_
    refine T.ret ?_
    refine ⟨[(false, [.row 1031 []]), (false, [.d (.bool true)])], (.cons rfl (.cons rfl .nil)), rfl, [1031], (RetC.own' rfl ?_ rfl (RetC.rd' ?_ .nil))⟩ <;> (first | (congr 1; first | (rw [pathOf_no (l := l) (i := i) (by omega)]; done) | (rw [pathOf_one (l := l) (i := i) (by omega)]; done) | (rw [pathOf_left (l := l) (i := i) (by omega) (by omega) (by omega)]; done) | (rw [pathOf_right (l := l) (i := i) (by omega) (by omega) (by omega)]; done) | (symm; exact decide_eq_true (by omega)) | (symm; exact decide_eq_false (by omega))) | (simp only [D.size]; first | (rw [pathOf_no (l := l) (i := i) (by omega)]; rfl) | (rw [pathOf_one (l := l) (i := i) (by omega)]; rfl)))
   ·
    replace h4 := of_decide_eq_false h4
    refine T.skip ?_
    refine T.seq ?_
    refine T.region ?_
    refine TL.mv (.one (.d (.bss l))) ?_
    refine TL.mv (pI (splitAtT (l.length : Int))) ?_
    refine TL.c (Step.slice (e := 22) (z := 1) (l := (splitAtT (l.length : Int)).toNat) (h := l.length) rfl rfl (lt_ok rfl) (by kernel_rfl) rfl rfl rfl ((.some (i := (splitAtT (l.length : Int))) rfl (by first | omega | (simp; omega)))) (.none _) (by first | omega | (simp; omega)) (by simp only [D.size]; first | omega | (simp; omega)) rfl) ?_
    refine TL.mv (pI i) ?_
    refine TL.mv (pI (splitAtT (l.length : Int))) ?_
    refine TL.c (Step.bin (r := .int .i64 (i - (splitAtT (l.length : Int)))) rfl rfl (lt_ok rfl) rfl rfl (Bin.sub (a := i) (b := (splitAtT (l.length : Int))) (by first | exact wrap_ok (by first | omega | (simp; omega)) (by first | omega | (simp; omega)) | rfl))) ?_
    have nn8 := pathOf_len ((l.drop (splitAtT (l.length : Int)).toNat).take (l.length - (splitAtT (l.length : Int)).toNat)).length ((l.drop (splitAtT (l.length : Int)).toNat).take (l.length - (splitAtT (l.length : Int)).toNat)) (i - (splitAtT (l.length : Int))) (Nat.le_refl _)
    refine TL.c (Step.call (f := 20) (xs := [.tmp 44, .tmp 47]) (ps := [(.one (.d (.bss ((l.drop (splitAtT (l.length : Int)).toNat).take (l.length - (splitAtT (l.length : Int)).toNat))))), (pI (i - (splitAtT (l.length : Int))))]) false (g := .func 20) rfl rfl (lt_ok rfl) rfl (by kernel_rfl) rfl (.cons (.one (.d _)) (.cons (.one (.d _)) .nil)) (ih ((l.drop (splitAtT (l.length : Int)).toNat).take (l.length - (splitAtT (l.length : Int)).toNat)).length (by omega) ((l.drop (splitAtT (l.length : Int)).toNat).take (l.length - (splitAtT (l.length : Int)).toNat)) (i - (splitAtT (l.length : Int))) rfl (by first | assumption | exact mem_sub (by assumption) _ _ | exact s0.2 | exact o1) (by first | assumption | exact mem_sub (by assumption) _ _ | exact s0.2 | exact s1.2) (by first | assumption | exact ⟨by omega, by omega⟩) (by first | omega | exact s0.1 | exact s1.1)) (.inr rfl) rfl (by simp) rfl) ?_
    refine TL.mv (.tup [(false, [.row 1048 []]), (false, [.d (.bool (decide (0 ≤ (i - (splitAtT (l.length : Int))) ∧ (i - (splitAtT (l.length : Int))) ≤ (((l.drop (splitAtT (l.length : Int)).toNat).take (l.length - (splitAtT (l.length : Int)).toNat)).length : Int) - 1)))])]) ?_
    refine TL.c (Step.extract (p := (.one (.row 1048 []))) rfl rfl (lt_ok rfl) rfl rfl) ?_
    refine TL.c (Step.extract (p := (pB (decide (0 ≤ (i - (splitAtT (l.length : Int))) ∧ (i - (splitAtT (l.length : Int))) ≤ (((l.drop (splitAtT (l.length : Int)).toNat).take (l.length - (splitAtT (l.length : Int)).toNat)).length : Int) - 1)))) rfl rfl (lt_ok rfl) rfl rfl) ?_
    refine TL.as (.one (.row 1048 [])) ?_
    refine TL.as (pB (decide (0 ≤ (i - (splitAtT (l.length : Int))) ∧ (i - (splitAtT (l.length : Int))) ≤ (((l.drop (splitAtT (l.length : Int)).toNat).take (l.length - (splitAtT (l.length : Int)).toNat)).length : Int) - 1))) ?_
    refine TL.nil ?_
    refine T.seq ?_
    refine T.region ?_
    refine TL.mv (.one (.row 1048 [])) ?_
    refine TL.mv (.one (.d (.bss l))) ?_
    refine TL.mv (pI (splitAtT (l.length : Int))) ?_
    refine TL.c (Step.slice (e := 22) (z := 1) (l := 0) (h := (splitAtT (l.length : Int)).toNat) rfl rfl (lt_ok rfl) (by kernel_rfl) rfl rfl rfl (.none _) ((.some (i := (splitAtT (l.length : Int))) rfl (by first | omega | (simp; omega)))) (by first | omega | (simp; omega)) (by simp only [D.size]; first | omega | (simp; omega)) rfl) ?_
    have nn9 := treeRoot_len ((l.drop 0).take ((splitAtT (l.length : Int)).toNat - 0))
    have nn10 := treeRoot_u8 ((l.drop 0).take ((splitAtT (l.length : Int)).toNat - 0))
    refine TL.c (Step.cl (xs := [.tmp 54]) (ps := [(.one (.d (.bss ((l.drop 0).take ((splitAtT (l.length : Int)).toNat - 0)))))]) (g := .func 61) false (.cons (.one (.d _)) .nil) (ok_spec_TreeRoot ((l.drop 0).take ((splitAtT (l.length : Int)).toNat - 0)) (by first | assumption | exact mem_sub (by assumption) _ _ | exact s0.2 | exact o1) (by first | assumption | exact mem_sub (by assumption) _ _ | exact s0.2 | exact s1.2))) ?_
    refine TL.c (Step.lit (e := 22) (z := 1) (by_ := 24) (xs := [.tmp 55]) (pss := [[.row 1055 []]]) (es := [(.ints .u8 (treeRoot ((l.drop 0).take ((splitAtT (l.length : Int)).toNat - 0))))]) (ss := [1055]) (d := (.bss [treeRoot ((l.drop 0).take ((splitAtT (l.length : Int)).toNat - 0))])) rfl rfl (lt_ok rfl) (by kernel_rfl) rfl rfl (.cons rfl .nil) (by simp) (le_ok rfl) (le_ok rfl) rfl (.row rfl (by simp) .nil) rfl (by simp) (by simp) rfl trivial rfl rfl) ?_
    refine TL.c (Step.append (e := 22) (z := 1) (by_ := 24) (d := (.bss (pathOf ((l.drop (splitAtT (l.length : Int)).toNat).take (l.length - (splitAtT (l.length : Int)).toNat)) (i - (splitAtT (l.length : Int)))))) (dy := (.bss [treeRoot ((l.drop 0).take ((splitAtT (l.length : Int)).toNat - 0))])) (d' := (.bss ((pathOf ((l.drop (splitAtT (l.length : Int)).toNat).take (l.length - (splitAtT (l.length : Int)).toNat)) (i - (splitAtT (l.length : Int)))) ++ [treeRoot ((l.drop 0).take ((splitAtT (l.length : Int)).toNat - 0))]))) (ss := [56]) rfl rfl (lt_ok rfl) (by kernel_rfl) rfl rfl rfl (lt_ok rfl) rfl (.move rfl) (by simp) rfl (by simp only [D.size, List.length_map]; first | omega | (simp only [List.length_append, List.length_cons, List.length_nil]; omega) | (simp; omega) | (simp only [List.length_append] at *; omega)) (by simp only [D.size, List.length_map]; first | omega | (simp only [List.length_append, List.length_cons, List.length_nil]; omega) | (simp; omega) | (simp only [List.length_append] at *; omega)) (by simp)) ?_
    refine TL.as (.one (.row 1048 [])) ?_
    refine TL.as (pB true) ?_
    refine TL.nil ?_
    refine T.ret ?_
    refine ⟨[(false, [.row 1048 []]), (false, [.d (.bool true)])], (.cons rfl (.cons rfl .nil)), rfl, [1048], (RetC.own' rfl ?_ rfl (RetC.rd' ?_ .nil))⟩ <;> (first | (congr 1; first | (rw [pathOf_no (l := l) (i := i) (by omega)]; done) | (rw [pathOf_one (l := l) (i := i) (by omega)]; done) | (rw [pathOf_left (l := l) (i := i) (by omega) (by omega) (by omega)]; done) | (rw [pathOf_right (l := l) (i := i) (by omega) (by omega) (by omega)]; done) | (symm; exact decide_eq_true (by omega)) | (symm; exact decide_eq_false (by omega))) | (simp only [D.size]; first | (rw [pathOf_no (l := l) (i := i) (by omega)]; rfl) | (rw [pathOf_one (l := l) (i := i) (by omega)]; rfl)))
theorem ok_spec_PathOf (l : List (List Int)) (i : Int) (h0_ : ∀ y ∈ l, U8s y) (h1_ : ∀ y ∈ l, y.length ≤ 1048576) (h2_ : I64 i) (h3_ : l.length ≤ 1048576) : RO Try.prog 20 [.one (.bss l), .one (.int .i64 i)] [(false, [.own 22 (.bss (pathOf l i))]), (false, [.rd (.bool (decide (0 ≤ i ∧ i ≤ (l.length : Int) - 1)))])] := ok_spec_PathOf_r _ l i rfl h0_ h1_ h2_ h3_
theorem ok_spec_SameBytes (a : List Int) (b : List Int) (h0_ : U8s a) (h1_ : U8s b) : RO Try.prog 63 [.one (.ints .u8 a), .one (.ints .u8 b)] [(false, [.rd (.bool (decide (a = b)))])] := by
 refine RO.intro Try.func63 rfl 10 rfl (le_ok rfl) fun w Z => ?_
 refine T.bnd 0 0 rfl rfl fun hb_0_0 => ?_
 simp only [D.size, List.length_map] at hb_0_0
 refine T.bnd 1 0 rfl rfl fun hb_1_0 => ?_
 simp only [D.size, List.length_map] at hb_1_0
 refine T.seq ?_
 refine T.region ?_
 refine TL.as (pB false) ?_
 refine TL.nil ?_
 refine T.seq ?_
 refine T.region ?_
 refine TL.mv (pS a) ?_
 refine TL.c (Step.toStr (e := 5) (xs := a) rfl rfl (lt_ok rfl) (by kernel_rfl) (by kernel_rfl) (by kernel_rfl) rfl rfl) ?_
 refine TL.mv (pS b) ?_
 refine TL.c (Step.toStr (e := 5) (xs := b) rfl rfl (lt_ok rfl) (by kernel_rfl) (by kernel_rfl) (by kernel_rfl) rfl rfl) ?_
 refine TL.c (Step.bin rfl rfl (lt_ok rfl) rfl rfl Bin.streq) ?_
 refine TL.as (pB ((strOfNums a).toList == (strOfNums b).toList)) ?_
 refine TL.nil ?_
 refine T.ret ?_
 refine ⟨[(false, [.d (.bool ((strOfNums a).toList == (strOfNums b).toList))])], (.cons rfl .nil), rfl, [], (RetC.rd' ?_ .nil)⟩ <;> (exact congrArg D.bool (str_eq h0_ h1_))
theorem ok_spec_l07Hash (h : List Int) : RO Try.prog 65 [.one (.ints .u8 h)] [(false, [.rd (.bool (decide ((h.length : Int) = 32)))])] := by
 refine RO.intro Try.func65 rfl 6 rfl (le_ok rfl) fun w Z => ?_
 refine T.bnd 0 0 rfl rfl fun hb_0_0 => ?_
 simp only [D.size, List.length_map] at hb_0_0
 refine T.seq ?_
 refine T.region ?_
 refine TL.as (pB false) ?_
 refine TL.nil ?_
 refine T.seq ?_
 refine T.region ?_
 refine TL.mv (pS h) ?_
 refine TL.c (Step.len (e := 5) (z := 1) (d := (.ints .u8 h)) rfl rfl (lt_ok rfl) (by kernel_rfl) rfl rfl) ?_
 refine TL.c (Step.bin rfl rfl (lt_ok rfl) rfl rfl (Bin.eql (k := .i64) (a := (h.length : Int)) (b := 32))) ?_
 refine TL.as (pB (decide ((h.length : Int) = 32))) ?_
 refine TL.nil ?_
 refine T.ret ?_
 exact ⟨[(false, [.d (.bool (decide ((h.length : Int) = 32)))])], (.cons rfl .nil), rfl, [], (RetC.rd' rfl .nil)⟩
theorem ok_spec_l02Signers (n : Int) : RO Try.prog 111 [.one (.int .i64 n)] [(false, [.rd (.bool (decide (1 ≤ n ∧ n ≤ 10)))])] := by
 refine RO.intro Try.func111 rfl 5 rfl (le_ok rfl) fun w Z => ?_
 refine T.seq ?_
 refine T.region ?_
 refine TL.as (pB false) ?_
 refine TL.nil ?_
 refine T.seq ?_
 refine T.region ?_
 refine TL.mv (pI n) ?_
 refine TL.c (Step.cl (xs := [.tmp 3, .const (.int .i64 1), .const (.int .i64 10)]) (ps := [(pI n), (pI 1), (pI 10)]) (g := .func 59) false (.cons (.one (.d _)) (.cons (.one (.d _)) (.cons (.one (.d _)) .nil))) (ok_spec_l01In n 1 10)) ?_
 refine TL.as (pB (decide (1 ≤ n ∧ n ≤ 10))) ?_
 refine TL.nil ?_
 refine T.ret ?_
 exact ⟨[(false, [.d (.bool (decide (1 ≤ n ∧ n ≤ 10)))])], (.cons rfl .nil), rfl, [], (RetC.rd' rfl .nil)⟩
theorem ok_spec_LimitsOk (l : SLimits) : RO Try.prog 93 [.agg l.cells] [(false, [.rd (.bool (limOk l))])] := by
 refine RO.intro Try.func93 rfl 26 rfl (le_ok rfl) fun w Z => ?_
 refine T.seq ?_
 refine T.region ?_
 refine TL.c (Step.box (p := (.agg [cI l.f0, cI l.f1, cI l.f2, cI l.f3, cI l.f4])) (ps := [cI l.f0, cI l.f1, cI l.f2, cI l.f3, cI l.f4]) rfl rfl (lt_ok rfl) rfl rfl rfl rfl rfl) ?_
 refine TL.as (pB false) ?_
 refine TL.nil ?_
 refine T.seq ?_
 refine T.region ?_
 refine TL.c (Step.fieldAddr (q := 0) (off := 0) (n := 1) (one := true) rfl rfl (lt_ok rfl) (by kernel_rfl) (Nat.succ_ne_zero _) rfl) ?_
 refine TL.c (Step.load_box (c := cI l.f0) rfl rfl (lt_ok rfl) (by kernel_rfl) rfl rfl rfl) ?_
 refine TL.c (Step.cl (xs := [.tmp 4]) (ps := [(pI l.f0)]) (g := .func 111) false (.cons (.one (.d _)) .nil) (ok_spec_l02Signers l.f0)) ?_
 refine TL.mv (pB (decide (1 ≤ l.f0 ∧ l.f0 ≤ 10))) ?_
 rcases Bool.eq_false_or_eq_true (decide (1 ≤ l.f0 ∧ l.f0 ≤ 10)) with hb1 | hb1
 ·
  refine TL.known 6 hb1 rfl ?_
  refine TL.gy 6 (Step.fieldAddr (q := 0) (off := 1) (n := 1) (one := true) rfl rfl (lt_ok rfl) (by kernel_rfl) (Nat.succ_ne_zero _) rfl) ?_
  refine TL.gy 6 (Step.load_box (c := cI l.f1) rfl rfl (lt_ok rfl) (by kernel_rfl) rfl rfl rfl) ?_
  refine TL.gy 6 (Step.cl (xs := [.tmp 8, .const (.int .i64 0), .const (.int .i64 40)]) (ps := [(pI l.f1), (pI 0), (pI 40)]) (g := .func 59) false (.cons (.one (.d _)) (.cons (.one (.d _)) (.cons (.one (.d _)) .nil))) (ok_spec_l01In l.f1 0 40)) ?_
  refine TL.pk true (pB (decide (0 ≤ l.f1 ∧ l.f1 ≤ 40))) ?_
  refine TL.mv (pB (decide (0 ≤ l.f1 ∧ l.f1 ≤ 40))) ?_
  rcases Bool.eq_false_or_eq_true (decide (0 ≤ l.f1 ∧ l.f1 ≤ 40)) with hb2 | hb2
  ·
   refine TL.known 11 hb2 rfl ?_
   refine TL.gy 11 (Step.fieldAddr (q := 0) (off := 2) (n := 1) (one := true) rfl rfl (lt_ok rfl) (by kernel_rfl) (Nat.succ_ne_zero _) rfl) ?_
   refine TL.gy 11 (Step.load_box (c := cI l.f2) rfl rfl (lt_ok rfl) (by kernel_rfl) rfl rfl rfl) ?_
   refine TL.gy 11 (Step.cl (xs := [.tmp 13, .const (.int .i64 0), .const (.int .i64 8)]) (ps := [(pI l.f2), (pI 0), (pI 8)]) (g := .func 59) false (.cons (.one (.d _)) (.cons (.one (.d _)) (.cons (.one (.d _)) .nil))) (ok_spec_l01In l.f2 0 8)) ?_
   refine TL.pk true (pB (decide (0 ≤ l.f2 ∧ l.f2 ≤ 8))) ?_
   refine TL.mv (pB (decide (0 ≤ l.f2 ∧ l.f2 ≤ 8))) ?_
   rcases Bool.eq_false_or_eq_true (decide (0 ≤ l.f2 ∧ l.f2 ≤ 8)) with hb3 | hb3
   ·
    refine TL.known 16 hb3 rfl ?_
    refine TL.gy 16 (Step.fieldAddr (q := 0) (off := 3) (n := 1) (one := true) rfl rfl (lt_ok rfl) (by kernel_rfl) (Nat.succ_ne_zero _) rfl) ?_
    refine TL.gy 16 (Step.load_box (c := cI l.f3) rfl rfl (lt_ok rfl) (by kernel_rfl) rfl rfl rfl) ?_
    refine TL.gy 16 (Step.cl (xs := [.tmp 18, .const (.int .i64 1), .const (.int .i64 4000)]) (ps := [(pI l.f3), (pI 1), (pI 4000)]) (g := .func 59) false (.cons (.one (.d _)) (.cons (.one (.d _)) (.cons (.one (.d _)) .nil))) (ok_spec_l01In l.f3 1 4000)) ?_
    refine TL.pk true (pB (decide (1 ≤ l.f3 ∧ l.f3 ≤ 4000))) ?_
    refine TL.mv (pB (decide (1 ≤ l.f3 ∧ l.f3 ≤ 4000))) ?_
    rcases Bool.eq_false_or_eq_true (decide (1 ≤ l.f3 ∧ l.f3 ≤ 4000)) with hb4 | hb4
    ·
     refine TL.known 21 hb4 rfl ?_
     refine TL.gy 21 (Step.fieldAddr (q := 0) (off := 4) (n := 1) (one := true) rfl rfl (lt_ok rfl) (by kernel_rfl) (Nat.succ_ne_zero _) rfl) ?_
     refine TL.gy 21 (Step.load_box (c := cI l.f4) rfl rfl (lt_ok rfl) (by kernel_rfl) rfl rfl rfl) ?_
     refine TL.gy 21 (Step.cl (xs := [.tmp 23, .const (.int .i64 3), .const (.int .i64 5)]) (ps := [(pI l.f4), (pI 3), (pI 5)]) (g := .func 59) false (.cons (.one (.d _)) (.cons (.one (.d _)) (.cons (.one (.d _)) .nil))) (ok_spec_l01In l.f4 3 5)) ?_
     refine TL.pk true (pB (decide (3 ≤ l.f4 ∧ l.f4 ≤ 5))) ?_
     refine TL.as (pB (decide (3 ≤ l.f4 ∧ l.f4 ≤ 5))) ?_
     refine TL.nil ?_
     refine T.ret ?_
     refine ⟨[(false, [.d (.bool (decide (3 ≤ l.f4 ∧ l.f4 ≤ 5)))])], (.cons rfl .nil), rfl, [], (RetC.rd' ?_ .nil)⟩ <;> (first | rfl | (congr 1; symm; simp only [limOk, *, Bool.and_true, Bool.true_and, Bool.and_false, Bool.false_and, decide_true, decide_false, and_true, true_and, and_self, and_false, false_and, Bool.and_self, not_true, not_false, Bool.not_true, Bool.not_false, ge_iff_le, gt_iff_lt, if_true, if_false, Bool.false_eq_true, ite_true, ite_false, reduceIte]; done) | (congr 1; symm; simp_all [limOk]; done) | (congr 1; symm; simp_all [limOk]; omega))
    ·
     refine TL.known 21 hb4 rfl ?_
     refine TL.gf 21 ?_
     refine TL.gf 21 ?_
     refine TL.gf 21 ?_
     refine TL.pk false (pB false) ?_
     refine TL.as (pB false) ?_
     refine TL.nil ?_
     refine T.ret ?_
     refine ⟨[(false, [.d (.bool false)])], (.cons rfl .nil), rfl, [], (RetC.rd' ?_ .nil)⟩ <;> (first | rfl | (congr 1; symm; simp only [limOk, *, Bool.and_true, Bool.true_and, Bool.and_false, Bool.false_and, decide_true, decide_false, and_true, true_and, and_self, and_false, false_and, Bool.and_self, not_true, not_false, Bool.not_true, Bool.not_false, ge_iff_le, gt_iff_lt, if_true, if_false, Bool.false_eq_true, ite_true, ite_false, reduceIte]; done) | (congr 1; symm; simp_all [limOk]; done) | (congr 1; symm; simp_all [limOk]; omega))
   ·
    refine TL.known 16 hb3 rfl ?_
    refine TL.gf 16 ?_
    refine TL.gf 16 ?_
    refine TL.gf 16 ?_
    refine TL.pk false (pB false) ?_
    refine TL.mv (pB false) ?_
    refine TL.gf 21 ?_
    refine TL.gf 21 ?_
    refine TL.gf 21 ?_
    refine TL.pk false (pB false) ?_
    refine TL.as (pB false) ?_
    refine TL.nil ?_
    refine T.ret ?_
    refine ⟨[(false, [.d (.bool false)])], (.cons rfl .nil), rfl, [], (RetC.rd' ?_ .nil)⟩ <;> (first | rfl | (congr 1; symm; simp only [limOk, *, Bool.and_true, Bool.true_and, Bool.and_false, Bool.false_and, decide_true, decide_false, and_true, true_and, and_self, and_false, false_and, Bool.and_self, not_true, not_false, Bool.not_true, Bool.not_false, ge_iff_le, gt_iff_lt, if_true, if_false, Bool.false_eq_true, ite_true, ite_false, reduceIte]; done) | (congr 1; symm; simp_all [limOk]; done) | (congr 1; symm; simp_all [limOk]; omega))
  ·
   refine TL.known 11 hb2 rfl ?_
   refine TL.gf 11 ?_
   refine TL.gf 11 ?_
   refine TL.gf 11 ?_
   refine TL.pk false (pB false) ?_
   refine TL.mv (pB false) ?_
   refine TL.gf 16 ?_
   refine TL.gf 16 ?_
   refine TL.gf 16 ?_
   refine TL.pk false (pB false) ?_
   refine TL.mv (pB false) ?_
   refine TL.gf 21 ?_
   refine TL.gf 21 ?_
   refine TL.gf 21 ?_
   refine TL.pk false (pB false) ?_
   refine TL.as (pB false) ?_
   refine TL.nil ?_
   refine T.ret ?_
   refine ⟨[(false, [.d (.bool false)])], (.cons rfl .nil), rfl, [], (RetC.rd' ?_ .nil)⟩ <;> (first | rfl | (congr 1; symm; simp only [limOk, *, Bool.and_true, Bool.true_and, Bool.and_false, Bool.false_and, decide_true, decide_false, and_true, true_and, and_self, and_false, false_and, Bool.and_self, not_true, not_false, Bool.not_true, Bool.not_false, ge_iff_le, gt_iff_lt, if_true, if_false, Bool.false_eq_true, ite_true, ite_false, reduceIte]; done) | (congr 1; symm; simp_all [limOk]; done) | (congr 1; symm; simp_all [limOk]; omega))
 ·
  refine TL.known 6 hb1 rfl ?_
  refine TL.gf 6 ?_
  refine TL.gf 6 ?_
  refine TL.gf 6 ?_
  refine TL.pk false (pB false) ?_
  refine TL.mv (pB false) ?_
  refine TL.gf 11 ?_
  refine TL.gf 11 ?_
  refine TL.gf 11 ?_
  refine TL.pk false (pB false) ?_
  refine TL.mv (pB false) ?_
  refine TL.gf 16 ?_
  refine TL.gf 16 ?_
  refine TL.gf 16 ?_
  refine TL.pk false (pB false) ?_
  refine TL.mv (pB false) ?_
  refine TL.gf 21 ?_
  refine TL.gf 21 ?_
  refine TL.gf 21 ?_
  refine TL.pk false (pB false) ?_
  refine TL.as (pB false) ?_
  refine TL.nil ?_
  refine T.ret ?_
  refine ⟨[(false, [.d (.bool false)])], (.cons rfl .nil), rfl, [], (RetC.rd' ?_ .nil)⟩ <;> (first | rfl | (congr 1; symm; simp only [limOk, *, Bool.and_true, Bool.true_and, Bool.and_false, Bool.false_and, decide_true, decide_false, and_true, true_and, and_self, and_false, false_and, Bool.and_self, not_true, not_false, Bool.not_true, Bool.not_false, ge_iff_le, gt_iff_lt, if_true, if_false, Bool.false_eq_true, ite_true, ite_false, reduceIte]; done) | (congr 1; symm; simp_all [limOk]; done) | (congr 1; symm; simp_all [limOk]; omega))
theorem ok_spec_l01Num (n : Int) : RO Try.prog 94 [.one (.int .i64 n)] [(false, [.rd (.bool (decide (0 ≤ n ∧ n ≤ 1152921504606846975)))])] := by
 refine RO.intro Try.func94 rfl 5 rfl (le_ok rfl) fun w Z => ?_
 refine T.seq ?_
 refine T.region ?_
 refine TL.as (pB false) ?_
 refine TL.nil ?_
 refine T.seq ?_
 refine T.region ?_
 refine TL.mv (pI n) ?_
 refine TL.c (Step.cl (xs := [.tmp 3, .const (.int .i64 0), .const (.int .i64 1152921504606846975)]) (ps := [(pI n), (pI 0), (pI 1152921504606846975)]) (g := .func 59) false (.cons (.one (.d _)) (.cons (.one (.d _)) (.cons (.one (.d _)) .nil))) (ok_spec_l01In n 0 1152921504606846975)) ?_
 refine TL.as (pB (decide (0 ≤ n ∧ n ≤ 1152921504606846975))) ?_
 refine TL.nil ?_
 refine T.ret ?_
 exact ⟨[(false, [.d (.bool (decide (0 ≤ n ∧ n ≤ 1152921504606846975)))])], (.cons rfl .nil), rfl, [], (RetC.rd' rfl .nil)⟩
theorem ok_spec_l08Hashes (l : List (List Int)) : RO Try.prog 68 [.one (.bss l)] [(false, [.rd (.bool (hashes l))])] := by
 refine RO.intro Try.func68 rfl 15 rfl (le_ok rfl) fun w Z => ?_
 refine T.bnd 0 0 rfl rfl fun hb_0_0 => ?_
 simp only [D.size, List.length_map] at hb_0_0
 refine T.seq ?_
 refine T.region ?_
 refine TL.as (pB false) ?_
 refine TL.nil ?_
 refine T.seq ?_
 refine T.seq ?_
 refine T.region ?_
 refine TL.mv (.one (.d (.bss l))) ?_
 refine TL.c (Step.len (e := 22) (z := 1) (d := (.bss l)) rfl rfl (lt_ok rfl) (by kernel_rfl) rfl rfl) ?_
 refine TL.mv (pI 0) ?_
 refine TL.nil ?_
 refine T.block ?_
 refine T.loop (ι := Nat) (fun xx_ => { tm := [(5, (.one (.d (.bss l)))), (6, (pI (l.length : Int))), (7, (pI (xx_ : Int)))], rows := [], boxes := [] }) (fun xx_ => xx_ ≤ l.length ∧ hashes (l.take xx_) = true) (fun xx_ => l.length - xx_) 0 ?_ ?_ ?_
 · refine Env.le_mk ⟨rfl, rfl, ?_, trivial⟩ trivial trivial <;> (first | rfl | (simp; done) | (congr 3; omega))
 · (refine ⟨Nat.zero_le _, by rw [List.take_zero]; rfl⟩)
 ·
  intro i hx
  try dsimp only at hx ⊢
  obtain ⟨hx1, hx2⟩ := hx
  refine T.seq ?_
  refine T.region ?_
  refine TL.c (Step.bin rfl rfl (lt_ok rfl) rfl rfl (Bin.lss (k := .i64) (a := (i : Int)) (b := (l.length : Int)))) ?_
  refine TL.nil ?_
  refine T.seq ?_
  refine T.cond (b := decide ((i : Int) < (l.length : Int))) rfl (fun h1 => ?_) (fun h1 => ?_)
  ·
   replace h1 := of_decide_eq_true h1
   refine T.skip ?_
   refine T.seq ?_
   refine T.block ?_
   refine T.seq ?_
   refine T.region ?_
   refine TL.c (Step.index (e := 22) (z := 1) (i := (i : Int)) rfl rfl (lt_ok rfl) (by kernel_rfl) rfl rfl rfl (lt_ok rfl) rfl (by first | omega | (simp; omega)) (by simp only [D.size]; first | omega | (simp; omega))) ?_
   refine TL.c (Step.load (e := (.ints .u8 (l.getD i []))) rfl rfl (lt_ok rfl) (by kernel_rfl) rfl rfl) ?_
   refine TL.as (pS (l.getD i [])) ?_
   refine TL.nil ?_
   refine T.seq ?_
   refine T.region ?_
   refine TL.mv (pS (l.getD i [])) ?_
   refine TL.c (Step.cl (xs := [.tmp 11]) (ps := [(pS (l.getD i []))]) (g := .func 65) false (.cons (.one (.d _)) .nil) (ok_spec_l07Hash (l.getD i []))) ?_
   refine TL.c (Step.not (b := (decide (((l.getD i []).length : Int) = 32))) rfl rfl (lt_ok rfl) rfl) ?_
   refine TL.nil ?_
   refine T.cond (b := !(decide (((l.getD i []).length : Int) = 32))) rfl (fun h2 => ?_) (fun h2 => ?_)
   ·
    replace h2 : (decide (((l.getD i []).length : Int) = 32)) = false := by simpa only [Bool.not_eq_true', Bool.not_eq_false'] using h2
    replace h2 := of_decide_eq_false h2
    refine T.seq ?_
    refine T.region ?_
    refine TL.as (pB false) ?_
    refine TL.nil ?_
    refine T.ret ?_
    refine ⟨[(false, [.d (.bool false)])], (.cons rfl .nil), rfl, [], (RetC.rd' ?_ .nil)⟩ <;> ((congr 1; symm; first | (exact hashes_no (i := i) (by omega) (by omega)) | (rw [List.take_of_length_le (by omega)] at hx2; exact hx2)))
   ·
    replace h2 : (decide (((l.getD i []).length : Int) = 32)) = true := by simpa only [Bool.not_eq_true', Bool.not_eq_false'] using h2
    replace h2 := of_decide_eq_true h2
    refine T.skip ?_
    refine T.region ?_
    refine TL.c (Step.bin (r := .int .i64 ((i : Int) + 1)) rfl rfl (lt_ok rfl) rfl rfl (Bin.add (a := (i : Int)) (b := 1) (by first | exact wrap_ok (by first | omega | (simp; omega)) (by first | omega | (simp; omega)) | rfl))) ?_
    refine TL.mv (pI ((i : Int) + 1)) ?_
    refine TL.nil ?_
    refine ⟨i + 1, by (refine ⟨by omega, hashes_step (by omega) hx2 (by omega)⟩), by first | omega | (dsimp only; omega), Env.le_mk ⟨rfl, rfl, ?_, trivial⟩ trivial trivial⟩ <;> (first | rfl | (simp; done) | (congr 3; omega))
  ·
   replace h1 := of_decide_eq_false h1
   refine T.exit ?_
   refine T.seq ?_
   refine T.region ?_
   refine TL.as (pB true) ?_
   refine TL.nil ?_
   refine T.ret ?_
   refine ⟨[(false, [.d (.bool true)])], (.cons rfl .nil), rfl, [], (RetC.rd' ?_ .nil)⟩ <;> ((congr 1; symm; first | (exact hashes_no (i := i) (by omega) (by omega)) | (rw [List.take_of_length_le (by omega)] at hx2; exact hx2)))
theorem ok_spec_BitsSize (n : Int) (h0_ : n ≤ 9223372036854775807) : RO Try.prog 120 [.one (.int .i64 n)] [(false, [.rd (.int .i64 (bitsSize n))])] := by
 refine RO.intro Try.func120 rfl 9 rfl (le_ok rfl) fun w Z => ?_
 refine T.seq ?_
 refine T.region ?_
 refine TL.as (pI 0) ?_
 refine TL.nil ?_
 refine T.seq ?_
 refine T.seq ?_
 refine T.region ?_
 refine TL.mv (pI n) ?_
 refine TL.c (Step.bin rfl rfl (lt_ok rfl) rfl rfl (Bin.lss (k := .i64) (a := n) (b := 1))) ?_
 refine TL.nil ?_
 refine T.cond (b := decide (n < 1)) rfl (fun h1 => ?_) (fun h1 => ?_)
 ·
  replace h1 := of_decide_eq_true h1
  refine T.seq ?_
  refine T.region ?_
  refine TL.as (pI 0) ?_
  refine TL.nil ?_
  refine T.ret ?_
  refine ⟨[(false, [cI 0])], (.cons rfl .nil), rfl, [], (RetC.rd' ?_ .nil)⟩ <;> ((congr 1; unfold bitsSize; first | rw [if_pos (by omega)] | (rw [if_neg (by omega)]; done) | (rw [if_neg (by omega)]; omega)))
 ·
  replace h1 := of_decide_eq_false h1
  refine T.skip ?_
  refine T.seq ?_
  refine T.region ?_
  refine TL.mv (pI n) ?_
  refine TL.c (Step.bin (r := .int .i64 (n - 1)) rfl rfl (lt_ok rfl) rfl rfl (Bin.sub (a := n) (b := 1) (by first | exact wrap_ok (by first | omega | (simp; omega)) (by first | omega | (simp; omega)) | rfl))) ?_
  refine TL.c (Step.bin (r := .int .i64 ((n - 1) / 8)) rfl rfl (lt_ok rfl) rfl rfl (Bin.quo (k := .i64) (a := (n - 1)) (b := 8) (by decide) (by rw [Int.tdiv_eq_ediv_of_nonneg (by first | omega | (simp; omega))]; exact wrap_ok (by first | omega | (simp; omega)) (by first | omega | (simp; omega))))) ?_
  refine TL.c (Step.bin (r := .int .i64 (((n - 1) / 8) + 1)) rfl rfl (lt_ok rfl) rfl rfl (Bin.add (a := ((n - 1) / 8)) (b := 1) (by first | exact wrap_ok (by first | omega | (simp; omega)) (by first | omega | (simp; omega)) | rfl))) ?_
  refine TL.as (pI (((n - 1) / 8) + 1)) ?_
  refine TL.nil ?_
  refine T.ret ?_
  refine ⟨[(false, [cI (((n - 1) / 8) + 1)])], (.cons rfl .nil), rfl, [], (RetC.rd' ?_ .nil)⟩ <;> ((congr 1; unfold bitsSize; first | rw [if_pos (by omega)] | (rw [if_neg (by omega)]; done) | (rw [if_neg (by omega)]; omega)))
theorem ok_spec_BitsHas (b : List Int) (i : Int) (h0_ : U8s b) (h1_ : b.length ≤ 17592186044416) (h2_ : i ≤ 9223372036854775807) : RO Try.prog 125 [.one (.ints .u8 b), .one (.int .i64 i)] [(false, [.rd (.bool (bitHas b i))])] := by
 refine RO.intro Try.func125 rfl 27 rfl (le_ok rfl) fun w Z => ?_
 refine T.bnd 0 0 rfl rfl fun hb_0_0 => ?_
 simp only [D.size, List.length_map] at hb_0_0
 have hu_ := getD_u8 h0_ (i / 8).toNat
 have hp_ := div_pow_bd hu_.1 hu_.2 (i % 8).toNat
 refine T.seq ?_
 refine T.region ?_
 refine TL.as (pB false) ?_
 refine TL.nil ?_
 refine T.seq ?_
 refine T.region ?_
 refine TL.mv (pI i) ?_
 refine TL.c (Step.bin rfl rfl (lt_ok rfl) rfl rfl (Bin.geq (k := .i64) (a := i) (b := 0))) ?_
 refine TL.mv (pB (decide (0 ≤ i))) ?_
 rcases Bool.eq_false_or_eq_true (decide (0 ≤ i)) with hb1 | hb1
 ·
  refine TL.known 7 hb1 rfl ?_
  have hb1' := hb1
  replace hb1' := of_decide_eq_true hb1'
  refine TL.gm 7 (pI i) ?_
  refine TL.gy 7 (Step.bin (r := .int .i64 (i / 8)) rfl rfl (lt_ok rfl) rfl rfl (Bin.quo (k := .i64) (a := i) (b := 8) (by decide) (by rw [Int.tdiv_eq_ediv_of_nonneg (by first | omega | exact hp_.1 | exact hp_.2 | (simp; omega))]; exact wrap_ok (by first | omega | exact hp_.1 | exact hp_.2 | (simp; omega)) (by first | omega | exact hp_.1 | exact hp_.2 | (simp; omega))))) ?_
  refine TL.gm 7 (pS b) ?_
  refine TL.gy 7 (Step.len (e := 5) (z := 1) (d := (.ints .u8 b)) rfl rfl (lt_ok rfl) (by kernel_rfl) rfl rfl) ?_
  refine TL.gy 7 (Step.bin rfl rfl (lt_ok rfl) rfl rfl (Bin.lss (k := .i64) (a := (i / 8)) (b := (b.length : Int)))) ?_
  refine TL.pk true (pB (decide ((i / 8) < (b.length : Int)))) ?_
  refine TL.mv (pB (decide ((i / 8) < (b.length : Int)))) ?_
  rcases Bool.eq_false_or_eq_true (decide ((i / 8) < (b.length : Int))) with hb2 | hb2
  ·
   refine TL.known 14 hb2 rfl ?_
   have hb2' := hb2
   replace hb2' := of_decide_eq_true hb2'
   refine TL.gm 14 (pS b) ?_
   refine TL.gm 14 (pI i) ?_
   refine TL.gy 14 (Step.bin (r := .int .i64 (i / 8)) rfl rfl (lt_ok rfl) rfl rfl (Bin.quo (k := .i64) (a := i) (b := 8) (by decide) (by rw [Int.tdiv_eq_ediv_of_nonneg (by first | omega | exact hp_.1 | exact hp_.2 | (simp; omega))]; exact wrap_ok (by first | omega | exact hp_.1 | exact hp_.2 | (simp; omega)) (by first | omega | exact hp_.1 | exact hp_.2 | (simp; omega))))) ?_
   refine TL.gy 14 (Step.index (e := 5) (z := 1) (i := (i / 8)) rfl rfl (lt_ok rfl) (by kernel_rfl) rfl rfl rfl (lt_ok rfl) rfl (by first | omega | exact hp_.1 | exact hp_.2 | (simp; omega)) (by simp only [D.size]; first | omega | exact hp_.1 | exact hp_.2 | (simp; omega))) ?_
   refine TL.gy 14 (Step.load (e := (.int .u8 (b.getD (i / 8).toNat 0))) rfl rfl (lt_ok rfl) (by kernel_rfl) rfl rfl) ?_
   refine TL.gy 14 (Step.conv (c := (b.getD (i / 8).toNat 0)) rfl rfl (lt_ok rfl) (by kernel_rfl) (by kernel_rfl) rfl (wrap_ok (by first | omega | exact hp_.1 | exact hp_.2 | (simp; omega)) (by first | omega | exact hp_.1 | exact hp_.2 | (simp; omega)))) ?_
   refine TL.gm 14 (pI i) ?_
   refine TL.gy 14 (Step.bin (r := .int .i64 (i % 8)) rfl rfl (lt_ok rfl) rfl rfl (Bin.rem (k := .i64) (a := i) (b := 8) (by decide) (Int.tmod_eq_emod_of_nonneg (by first | omega | exact hp_.1 | exact hp_.2 | (simp; omega))))) ?_
   refine TL.gy 14 (Step.bin (r := .int .i64 ((b.getD (i / 8).toNat 0) / 2 ^ ((i % 8)).toNat)) rfl rfl (lt_ok rfl) rfl rfl (Bin.shr (k := .i64) (k' := .i64) (a := (b.getD (i / 8).toNat 0)) (b := (i % 8)) (by first | omega | exact hp_.1 | exact hp_.2 | (simp; omega)) (shr_ok (by first | omega | exact hp_.1 | exact hp_.2 | (simp; omega)) (by show _ < ((64 : Nat) : Int); first | omega | exact hp_.1 | exact hp_.2 | (simp; omega))))) ?_
   refine TL.gy 14 (Step.bin (r := .int .i64 (((b.getD (i / 8).toNat 0) / 2 ^ ((i % 8)).toNat) % 2)) rfl rfl (lt_ok rfl) rfl rfl (Bin.rem (k := .i64) (a := ((b.getD (i / 8).toNat 0) / 2 ^ ((i % 8)).toNat)) (b := 2) (by decide) (Int.tmod_eq_emod_of_nonneg (by first | omega | exact hp_.1 | exact hp_.2 | (simp; omega))))) ?_
   refine TL.gy 14 (Step.bin rfl rfl (lt_ok rfl) rfl rfl (Bin.eql (k := .i64) (a := (((b.getD (i / 8).toNat 0) / 2 ^ ((i % 8)).toNat) % 2)) (b := 1))) ?_
   refine TL.pk true (pB (decide ((((b.getD (i / 8).toNat 0) / 2 ^ ((i % 8)).toNat) % 2) = 1))) ?_
   refine TL.as (pB (decide ((((b.getD (i / 8).toNat 0) / 2 ^ ((i % 8)).toNat) % 2) = 1))) ?_
   refine TL.nil ?_
   refine T.ret ?_
   refine ⟨[(false, [.d (.bool (decide ((((b.getD (i / 8).toNat 0) / 2 ^ ((i % 8)).toNat) % 2) = 1)))])], (.cons rfl .nil), rfl, [], (RetC.rd' ?_ .nil)⟩ <;> ((congr 1; symm; unfold bitHas; first | (rw [decide_eq_false (p := 0 ≤ i) (by omega)]; rfl) | (rw [decide_eq_true (p := 0 ≤ i) (by omega), decide_eq_false (p := i / 8 < (b.length : Int)) (by omega)]; rfl) | (rw [decide_eq_true (p := 0 ≤ i) (by omega), decide_eq_true (p := i / 8 < (b.length : Int)) (by omega)]; rfl) | (by_cases hi_ : 0 ≤ i; (rw [decide_eq_true (p := 0 ≤ i) (by omega), decide_eq_false (p := i / 8 < (b.length : Int)) (by omega)]; rfl); (rw [decide_eq_false (p := 0 ≤ i) hi_]; rfl))))
  ·
   refine TL.known 14 hb2 rfl ?_
   have hb2' := hb2
   replace hb2' := of_decide_eq_false hb2'
   refine TL.gf 14 ?_
   refine TL.gf 14 ?_
   refine TL.gf 14 ?_
   refine TL.gf 14 ?_
   refine TL.gf 14 ?_
   refine TL.gf 14 ?_
   refine TL.gf 14 ?_
   refine TL.gf 14 ?_
   refine TL.gf 14 ?_
   refine TL.gf 14 ?_
   refine TL.gf 14 ?_
   refine TL.pk false (pB false) ?_
   refine TL.as (pB false) ?_
   refine TL.nil ?_
   refine T.ret ?_
   refine ⟨[(false, [.d (.bool false)])], (.cons rfl .nil), rfl, [], (RetC.rd' ?_ .nil)⟩ <;> ((congr 1; symm; unfold bitHas; first | (rw [decide_eq_false (p := 0 ≤ i) (by omega)]; rfl) | (rw [decide_eq_true (p := 0 ≤ i) (by omega), decide_eq_false (p := i / 8 < (b.length : Int)) (by omega)]; rfl) | (rw [decide_eq_true (p := 0 ≤ i) (by omega), decide_eq_true (p := i / 8 < (b.length : Int)) (by omega)]; rfl) | (by_cases hi_ : 0 ≤ i; (rw [decide_eq_true (p := 0 ≤ i) (by omega), decide_eq_false (p := i / 8 < (b.length : Int)) (by omega)]; rfl); (rw [decide_eq_false (p := 0 ≤ i) hi_]; rfl))))
 ·
  refine TL.known 7 hb1 rfl ?_
  have hb1' := hb1
  replace hb1' := of_decide_eq_false hb1'
  refine TL.gf 7 ?_
  refine TL.gf 7 ?_
  refine TL.gf 7 ?_
  refine TL.gf 7 ?_
  refine TL.gf 7 ?_
  refine TL.pk false (pB false) ?_
  refine TL.mv (pB false) ?_
  refine TL.gf 14 ?_
  refine TL.gf 14 ?_
  refine TL.gf 14 ?_
  refine TL.gf 14 ?_
  refine TL.gf 14 ?_
  refine TL.gf 14 ?_
  refine TL.gf 14 ?_
  refine TL.gf 14 ?_
  refine TL.gf 14 ?_
  refine TL.gf 14 ?_
  refine TL.gf 14 ?_
  refine TL.pk false (pB false) ?_
  refine TL.as (pB false) ?_
  refine TL.nil ?_
  refine T.ret ?_
  refine ⟨[(false, [.d (.bool false)])], (.cons rfl .nil), rfl, [], (RetC.rd' ?_ .nil)⟩ <;> ((congr 1; symm; unfold bitHas; first | (rw [decide_eq_false (p := 0 ≤ i) (by omega)]; rfl) | (rw [decide_eq_true (p := 0 ≤ i) (by omega), decide_eq_false (p := i / 8 < (b.length : Int)) (by omega)]; rfl) | (rw [decide_eq_true (p := 0 ≤ i) (by omega), decide_eq_true (p := i / 8 < (b.length : Int)) (by omega)]; rfl) | (by_cases hi_ : 0 ≤ i; (rw [decide_eq_true (p := 0 ≤ i) (by omega), decide_eq_false (p := i / 8 < (b.length : Int)) (by omega)]; rfl); (rw [decide_eq_false (p := 0 ≤ i) hi_]; rfl))))
theorem ok_spec_BitsList (b : List Int) (h0_ : U8s b) (h1_ : b.length ≤ 1099511627776) : RO Try.prog 121 [.one (.ints .u8 b)] [(false, [.own 3 (.ints .i64 (bitList b))])] := by
 refine RO.intro Try.func121 rfl 21 rfl (le_ok rfl) fun w Z => ?_
 refine T.bnd 0 0 rfl rfl fun hb_0_0 => ?_
 simp only [D.size, List.length_map] at hb_0_0
 refine T.seq ?_
 refine T.region ?_
 refine TL.as (.one (.nil)) ?_
 refine TL.nil ?_
 refine T.seq ?_
 refine T.region ?_
 refine TL.c (Step.lit (e := 3) (z := 1) (by_ := 8) (xs := []) (pss := []) (es := []) (ss := []) (d := (.ints .i64 [])) rfl rfl (lt_ok rfl) (by kernel_rfl) rfl rfl .nil (by simp) (le_ok rfl) (le_ok rfl) rfl .nil rfl (by simp) (by simp) rfl trivial rfl rfl) ?_
 refine TL.as (.one (.row 5 [])) ?_
 refine TL.nil ?_
 refine T.seq ?_
 refine T.seq ?_
 refine T.region ?_
 refine TL.as (pI 0) ?_
 refine TL.nil ?_
 refine T.block ?_
 refine T.loop (ι := Nat × (List Int)) (fun xx_ => { tm := [(0, (pS b)), (2, (.one (.nil))), (4, (pI ((xx_.1) : Int))), (3, (.one (.row 5 [])))], rows := [(5, (3, (.ints .i64 (xx_.2))))], boxes := [] }) (fun xx_ => (xx_.1) ≤ 8 * b.length ∧ (xx_.2) ++ bitsGo b (8 * b.length - (xx_.1)) (xx_.1) = bitList b ∧ (xx_.2).length ≤ (xx_.1)) (fun xx_ => 8 * b.length - (xx_.1)) (0, []) ?_ ?_ ?_
 · refine Env.le_mk ⟨rfl, rfl, ?_, rfl, trivial⟩ ⟨?_, trivial⟩ trivial <;> (first | rfl | (refine congrArg (fun x => some (_, D.ints .i64 x)) ?_; rfl) | (refine congrArg (fun n => PV.one (.d (.int .i64 n))) ?_; first | omega | (simp; done)))
 · (dsimp only; refine ⟨Nat.zero_le _, rfl, Nat.zero_le _⟩)
 ·
  intro xx_ hx
  obtain ⟨i, o⟩ := xx_
  try dsimp only at hx ⊢
  obtain ⟨hx1, hx2, hx3⟩ := hx
  refine T.seq ?_
  refine T.seq ?_
  refine T.region ?_
  refine TL.mv (pI (i : Int)) ?_
  refine TL.mv (pS b) ?_
  refine TL.c (Step.len (e := 5) (z := 1) (d := (.ints .u8 b)) rfl rfl (lt_ok rfl) (by kernel_rfl) rfl rfl) ?_
  refine TL.c (Step.bin (r := .int .i64 (8 * (b.length : Int))) rfl rfl (lt_ok rfl) rfl rfl (Bin.mul (a := 8) (b := (b.length : Int)) (by first | exact wrap_ok (by first | omega | (simp; omega)) (by first | omega | (simp; omega)) | rfl))) ?_
  refine TL.c (Step.bin rfl rfl (lt_ok rfl) rfl rfl (Bin.lss (k := .i64) (a := (i : Int)) (b := (8 * (b.length : Int))))) ?_
  refine TL.nil ?_
  refine T.cond (b := decide ((i : Int) < (8 * (b.length : Int)))) rfl (fun h1 => ?_) (fun h1 => ?_)
  ·
   replace h1 := of_decide_eq_true h1
   refine T.skip ?_
   refine T.seq ?_
   refine T.block ?_
   refine T.seq ?_
   refine T.region ?_
   refine TL.mv (pS b) ?_
   refine TL.mv (pI (i : Int)) ?_
   refine TL.c (Step.cl (xs := [.tmp 13, .tmp 14]) (ps := [(pS b), (pI (i : Int))]) (g := .func 125) false (.cons (.one (.d _)) (.cons (.one (.d _)) .nil)) (ok_spec_BitsHas b (i : Int) (by assumption) (by first | omega | assumption | (simp only [List.length_append] at *; omega)) (by first | omega | (have := hn_ (by first | assumption | simpa using ‹(!bitsOk b n) = false›); omega)))) ?_
   refine TL.nil ?_
   refine T.cond (b := bitHas b (i : Int)) rfl (fun h2 => ?_) (fun h2 => ?_)
   ·
    refine T.region ?_
    refine TL.mv (.one (.row 5 [])) ?_
    refine TL.mv (pI (i : Int)) ?_
    refine TL.c (Step.lit (e := 3) (z := 1) (by_ := 8) (xs := [.tmp 17]) (pss := [[cI (i : Int)]]) (es := [(.int .i64 (i : Int))]) (ss := []) (d := (.ints .i64 [(i : Int)])) rfl rfl (lt_ok rfl) (by kernel_rfl) rfl rfl (.cons rfl .nil) (by simp) (le_ok rfl) (le_ok rfl) rfl (.val rfl .nil) rfl (by simp) (by simp) rfl trivial rfl rfl) ?_
    refine TL.c (Step.append (e := 3) (z := 1) (by_ := 8) (d := (.ints .i64 o)) (dy := (.ints .i64 [(i : Int)])) (d' := (.ints .i64 (o ++ [(i : Int)]))) (ss := []) rfl rfl (lt_ok rfl) (by kernel_rfl) rfl rfl rfl (lt_ok rfl) rfl (.copy rfl rfl rfl (by simp [D.flat, D.val])) (by simp) rfl (by simp only [D.size, List.length_map]; first | omega | (simp only [List.length_append, List.length_cons, List.length_nil]; omega) | (simp; omega) | (simp only [List.length_append] at *; omega)) (by simp only [D.size, List.length_map]; first | omega | (simp only [List.length_append, List.length_cons, List.length_nil]; omega) | (simp; omega) | (simp only [List.length_append] at *; omega)) (by simp)) ?_
    refine TL.as (.one (.row 5 [])) ?_
    refine TL.nil ?_
    refine T.region ?_
    refine TL.mv (pI (i : Int)) ?_
    refine TL.c (Step.bin (r := .int .i64 ((i : Int) + 1)) rfl rfl (lt_ok rfl) rfl rfl (Bin.add (a := (i : Int)) (b := 1) (by first | exact wrap_ok (by first | omega | (simp; omega)) (by first | omega | (simp; omega)) | rfl))) ?_
    refine TL.as (pI ((i : Int) + 1)) ?_
    refine TL.nil ?_
    refine ⟨(i + 1, o ++ [(i : Int)]), by (refine ⟨by omega, ?_, by simp only [List.length_append, List.length_cons, List.length_nil]; omega⟩; rw [← hx2, bitsGo_next b (n := 8 * b.length) (i := i) (by omega)]; first | (rw [if_pos (by assumption)]; simp only [List.append_assoc]; done) | (rw [if_neg (by simp [*])]; rfl)), by (dsimp only; omega), Env.le_mk ⟨rfl, rfl, ?_, rfl, trivial⟩ ⟨?_, trivial⟩ trivial⟩ <;> (first | rfl | (refine congrArg (fun x => some (_, D.ints .i64 x)) ?_; rfl) | (refine congrArg (fun n => PV.one (.d (.int .i64 n))) ?_; first | omega | (simp; done)))
   ·
    refine T.skip ?_
    refine T.region ?_
    refine TL.mv (pI (i : Int)) ?_
    refine TL.c (Step.bin (r := .int .i64 ((i : Int) + 1)) rfl rfl (lt_ok rfl) rfl rfl (Bin.add (a := (i : Int)) (b := 1) (by first | exact wrap_ok (by first | omega | (simp; omega)) (by first | omega | (simp; omega)) | rfl))) ?_
    refine TL.as (pI ((i : Int) + 1)) ?_
    refine TL.nil ?_
    refine ⟨(i + 1, o), by (refine ⟨by omega, ?_, by simp only [List.length_append, List.length_cons, List.length_nil]; omega⟩; rw [← hx2, bitsGo_next b (n := 8 * b.length) (i := i) (by omega)]; first | (rw [if_pos (by assumption)]; simp only [List.append_assoc]; done) | (rw [if_neg (by simp [*])]; rfl)), by (dsimp only; omega), Env.le_mk ⟨rfl, rfl, ?_, rfl, trivial⟩ ⟨rfl, trivial⟩ trivial⟩ <;> (first | rfl | (refine congrArg (fun x => some (_, D.ints .i64 x)) ?_; rfl) | (refine congrArg (fun n => PV.one (.d (.int .i64 n))) ?_; first | omega | (simp; done)))
  ·
   replace h1 := of_decide_eq_false h1
   refine T.exit ?_
   refine T.seq ?_
   refine T.region ?_
   refine TL.mv (.one (.row 5 [])) ?_
   refine TL.as (.one (.row 5 [])) ?_
   refine TL.nil ?_
   refine T.ret ?_
   refine ⟨[(false, [.row 5 []])], (.cons rfl .nil), rfl, [5], (RetC.own' rfl ?_ rfl .nil)⟩ <;> ((congr 1; rw [← hx2, bitsGo_end b (by omega), List.append_nil]))
theorem ok_spec_BitsOk (b : List Int) (n : Int) (h0_ : U8s b) (h1_ : b.length ≤ 1099511627776) : RO Try.prog 112 [.one (.ints .u8 b), .one (.int .i64 n)] [(false, [.rd (.bool (bitsOk b n))])] := by
 refine RO.intro Try.func112 rfl 31 rfl (le_ok rfl) fun w Z => ?_
 refine T.bnd 0 0 rfl rfl fun hb_0_0 => ?_
 simp only [D.size, List.length_map] at hb_0_0
 refine T.seq ?_
 refine T.region ?_
 refine TL.as (pB false) ?_
 refine TL.nil ?_
 refine T.seq ?_
 refine T.seq ?_
 refine T.region ?_
 refine TL.mv (pI n) ?_
 refine TL.c (Step.cl (xs := [.tmp 6]) (ps := [(pI n)]) (g := .func 111) false (.cons (.one (.d _)) .nil) (ok_spec_l02Signers n)) ?_
 refine TL.c (Step.not (b := (decide (1 ≤ n ∧ n ≤ 10))) rfl rfl (lt_ok rfl) rfl) ?_
 refine TL.mv (pB (!(decide (1 ≤ n ∧ n ≤ 10)))) ?_
 rcases Bool.eq_false_or_eq_true (!(decide (1 ≤ n ∧ n ≤ 10))) with hb1 | hb1
 ·
  refine TL.known 9 hb1 rfl ?_
  have hb1' := hb1
  replace hb1' : (decide (1 ≤ n ∧ n ≤ 10)) = false := by simpa only [Bool.not_eq_true', Bool.not_eq_false'] using hb1'
  replace hb1' := of_decide_eq_false hb1'
  refine TL.gf 9 ?_
  refine TL.gf 9 ?_
  refine TL.gf 9 ?_
  refine TL.gf 9 ?_
  refine TL.gf 9 ?_
  refine TL.pk true (pB true) ?_
  refine TL.nil ?_
  refine T.cond (b := true) rfl (fun h2_ => ?_) (fun h2_ => absurd h2_ (by simp))
  refine T.seq ?_
  refine T.region ?_
  refine TL.as (pB false) ?_
  refine TL.nil ?_
  refine T.ret ?_
  refine ⟨[(false, [.d (.bool false)])], (.cons rfl .nil), rfl, [], (RetC.rd' ?_ .nil)⟩ <;> (first | (congr 1; symm; unfold bitsOk; rw [bits_last (by omega), decide_eq_true (p := (1 ≤ n ∧ n ≤ 10)) (by omega), decide_eq_true (p := ((b.length : Int) = bitsSize n)) (by omega)]; rfl) | (congr 1; symm; simp only [bitsOk, *, Bool.and_true, Bool.true_and, Bool.and_false, Bool.false_and, decide_true, decide_false, and_true, true_and, and_self, and_false, false_and, Bool.and_self, not_true, not_false, Bool.not_true, Bool.not_false, ge_iff_le, gt_iff_lt, if_true, if_false, Bool.false_eq_true, ite_true, ite_false, reduceIte]; done) | (congr 1; symm; unfold bitsOk; rw [decide_eq_false (p := (1 ≤ n ∧ n ≤ 10)) (by omega)]; rfl) | (congr 1; symm; unfold bitsOk; rw [decide_eq_false (p := ((b.length : Int) = bitsSize n)) (by omega)]; simp; done) | (congr 1; symm; unfold bitsOk; rw [all_no (i := i) (by omega) (by omega)]; simp; done) | (congr 1; symm; unfold bitsOk; rw [List.take_of_length_le (by omega)] at hx2; rw [hx2, decide_eq_true (p := (1 ≤ n ∧ n ≤ 10)) (by omega), decide_eq_true (p := ((b.length : Int) = bitsSize n)) (by omega)]; rfl) | (congr 1; unfold bitsOk; rw [bits_last (by omega), decide_eq_true (p := (1 ≤ n ∧ n ≤ 10)) (by omega), decide_eq_true (p := ((b.length : Int) = bitsSize n)) (by omega)]; simp only [Bool.true_and]; rfl) | (congr 1; symm; unfold bitsOk; rw [List.eq_nil_of_length_eq_zero (l := bitList b) (by omega), decide_eq_true (p := (1 ≤ n ∧ n ≤ 10)) (by omega), decide_eq_true (p := ((b.length : Int) = bitsSize n)) (by omega)]; rfl))
 ·
  refine TL.known 9 hb1 rfl ?_
  have hb1' := hb1
  replace hb1' : (decide (1 ≤ n ∧ n ≤ 10)) = true := by simpa only [Bool.not_eq_true', Bool.not_eq_false'] using hb1'
  replace hb1' := of_decide_eq_true hb1'
  refine TL.gm 9 (pS b) ?_
  refine TL.gy 9 (Step.len (e := 5) (z := 1) (d := (.ints .u8 b)) rfl rfl (lt_ok rfl) (by kernel_rfl) rfl rfl) ?_
  refine TL.gm 9 (pI n) ?_
  refine TL.gy 9 (Step.cl (xs := [.tmp 12]) (ps := [(pI n)]) (g := .func 120) false (.cons (.one (.d _)) .nil) (ok_spec_BitsSize n (by first | omega | assumption | (simp only [List.length_append] at *; omega)))) ?_
  refine TL.gy 9 (Step.bin rfl rfl (lt_ok rfl) rfl rfl (Bin.neq (k := .i64) (a := (b.length : Int)) (b := (bitsSize n)))) ?_
  refine TL.pk false (pB (decide ((b.length : Int) ≠ (bitsSize n)))) ?_
  refine TL.nil ?_
  refine T.cond (b := decide ((b.length : Int) ≠ (bitsSize n))) rfl (fun h3 => ?_) (fun h3 => ?_)
  ·
   replace h3 := of_decide_eq_true h3
   refine T.seq ?_
   refine T.region ?_
   refine TL.as (pB false) ?_
   refine TL.nil ?_
   refine T.ret ?_
   refine ⟨[(false, [.d (.bool false)])], (.cons rfl .nil), rfl, [], (RetC.rd' ?_ .nil)⟩ <;> (first | (congr 1; symm; unfold bitsOk; rw [bits_last (by omega), decide_eq_true (p := (1 ≤ n ∧ n ≤ 10)) (by omega), decide_eq_true (p := ((b.length : Int) = bitsSize n)) (by omega)]; rfl) | (congr 1; symm; simp only [bitsOk, *, Bool.and_true, Bool.true_and, Bool.and_false, Bool.false_and, decide_true, decide_false, and_true, true_and, and_self, and_false, false_and, Bool.and_self, not_true, not_false, Bool.not_true, Bool.not_false, ge_iff_le, gt_iff_lt, if_true, if_false, Bool.false_eq_true, ite_true, ite_false, reduceIte]; done) | (congr 1; symm; unfold bitsOk; rw [decide_eq_false (p := (1 ≤ n ∧ n ≤ 10)) (by omega)]; rfl) | (congr 1; symm; unfold bitsOk; rw [decide_eq_false (p := ((b.length : Int) = bitsSize n)) (by omega)]; simp; done) | (congr 1; symm; unfold bitsOk; rw [all_no (i := i) (by omega) (by omega)]; simp; done) | (congr 1; symm; unfold bitsOk; rw [List.take_of_length_le (by omega)] at hx2; rw [hx2, decide_eq_true (p := (1 ≤ n ∧ n ≤ 10)) (by omega), decide_eq_true (p := ((b.length : Int) = bitsSize n)) (by omega)]; rfl) | (congr 1; unfold bitsOk; rw [bits_last (by omega), decide_eq_true (p := (1 ≤ n ∧ n ≤ 10)) (by omega), decide_eq_true (p := ((b.length : Int) = bitsSize n)) (by omega)]; simp only [Bool.true_and]; rfl) | (congr 1; symm; unfold bitsOk; rw [List.eq_nil_of_length_eq_zero (l := bitList b) (by omega), decide_eq_true (p := (1 ≤ n ∧ n ≤ 10)) (by omega), decide_eq_true (p := ((b.length : Int) = bitsSize n)) (by omega)]; rfl))
  ·
   replace h3 := of_decide_eq_false h3
   refine T.skip ?_
   refine T.seq ?_
   refine T.region ?_
   refine TL.mv (pS b) ?_
   have nn4 := bitList_len b
   refine TL.c (Step.cl (xs := [.tmp 16]) (ps := [(pS b)]) (g := .func 121) false (.cons (.one (.d _)) .nil) (ok_spec_BitsList b (by assumption) (by first | omega | assumption | (simp only [List.length_append] at *; omega)))) ?_
   refine TL.as (.one (.row 1017 [])) ?_
   refine TL.nil ?_
   refine T.seq ?_
   refine T.region ?_
   refine TL.mv (.one (.row 1017 [])) ?_
   refine TL.c (Step.len (e := 3) (z := 1) (d := (.ints .i64 (bitList b))) rfl rfl (lt_ok rfl) (by kernel_rfl) rfl rfl) ?_
   refine TL.c (Step.bin rfl rfl (lt_ok rfl) rfl rfl (Bin.eql (k := .i64) (a := ((bitList b).length : Int)) (b := 0))) ?_
   refine TL.mv (pB (decide (((bitList b).length : Int) = 0))) ?_
   rcases Bool.eq_false_or_eq_true (decide (((bitList b).length : Int) = 0)) with hb5 | hb5
   ·
    refine TL.known 21 hb5 rfl ?_
    have hb5' := hb5
    replace hb5' := of_decide_eq_true hb5'
    refine TL.gf 21 ?_
    refine TL.gf 21 ?_
    refine TL.gf 21 ?_
    refine TL.gf 21 ?_
    refine TL.gf 21 ?_
    refine TL.gf 21 ?_
    refine TL.gf 21 ?_
    refine TL.gf 21 ?_
    refine TL.pk true (pB true) ?_
    refine TL.as (pB true) ?_
    refine TL.nil ?_
    refine T.ret ?_
    refine ⟨[(false, [.d (.bool true)])], (.cons rfl .nil), rfl, [], (RetC.rd' ?_ .nil)⟩ <;> (first | (congr 1; symm; unfold bitsOk; rw [bits_last (by omega), decide_eq_true (p := (1 ≤ n ∧ n ≤ 10)) (by omega), decide_eq_true (p := ((b.length : Int) = bitsSize n)) (by omega)]; rfl) | (congr 1; symm; simp only [bitsOk, *, Bool.and_true, Bool.true_and, Bool.and_false, Bool.false_and, decide_true, decide_false, and_true, true_and, and_self, and_false, false_and, Bool.and_self, not_true, not_false, Bool.not_true, Bool.not_false, ge_iff_le, gt_iff_lt, if_true, if_false, Bool.false_eq_true, ite_true, ite_false, reduceIte]; done) | (congr 1; symm; unfold bitsOk; rw [decide_eq_false (p := (1 ≤ n ∧ n ≤ 10)) (by omega)]; rfl) | (congr 1; symm; unfold bitsOk; rw [decide_eq_false (p := ((b.length : Int) = bitsSize n)) (by omega)]; simp; done) | (congr 1; symm; unfold bitsOk; rw [all_no (i := i) (by omega) (by omega)]; simp; done) | (congr 1; symm; unfold bitsOk; rw [List.take_of_length_le (by omega)] at hx2; rw [hx2, decide_eq_true (p := (1 ≤ n ∧ n ≤ 10)) (by omega), decide_eq_true (p := ((b.length : Int) = bitsSize n)) (by omega)]; rfl) | (congr 1; unfold bitsOk; rw [bits_last (by omega), decide_eq_true (p := (1 ≤ n ∧ n ≤ 10)) (by omega), decide_eq_true (p := ((b.length : Int) = bitsSize n)) (by omega)]; simp only [Bool.true_and]; rfl) | (congr 1; symm; unfold bitsOk; rw [List.eq_nil_of_length_eq_zero (l := bitList b) (by omega), decide_eq_true (p := (1 ≤ n ∧ n ≤ 10)) (by omega), decide_eq_true (p := ((b.length : Int) = bitsSize n)) (by omega)]; rfl))
   ·
    refine TL.known 21 hb5 rfl ?_
    have hb5' := hb5
    replace hb5' := of_decide_eq_false hb5'
    refine TL.gm 21 (.one (.row 1017 [])) ?_
    refine TL.gm 21 (.one (.row 1017 [])) ?_
    refine TL.gy 21 (Step.len (e := 3) (z := 1) (d := (.ints .i64 (bitList b))) rfl rfl (lt_ok rfl) (by kernel_rfl) rfl rfl) ?_
    refine TL.gy 21 (Step.bin (r := .int .i64 (((bitList b).length : Int) - 1)) rfl rfl (lt_ok rfl) rfl rfl (Bin.sub (a := ((bitList b).length : Int)) (b := 1) (by first | exact wrap_ok (by first | omega | (simp; omega)) (by first | omega | (simp; omega)) | rfl))) ?_
    refine TL.gy 21 (Step.index_row (e := 3) (z := 1) (i := (((bitList b).length : Int) - 1)) rfl rfl (lt_ok rfl) (by kernel_rfl) rfl rfl rfl rfl (lt_ok rfl) rfl (by first | omega | (simp; omega)) (by simp only [D.at_, D.cell, D.size]; first | omega | (simp; omega))) ?_
    refine TL.gy 21 (Step.load_row (c := cI ((bitList b).getD (((bitList b).length : Int) - 1).toNat 0)) rfl rfl (lt_ok rfl) (by kernel_rfl) rfl rfl rfl) ?_
    refine TL.gm 21 (pI n) ?_
    refine TL.gy 21 (Step.bin rfl rfl (lt_ok rfl) rfl rfl (Bin.lss (k := .i64) (a := ((bitList b).getD (((bitList b).length : Int) - 1).toNat 0)) (b := n))) ?_
    refine TL.pk false (pB (decide (((bitList b).getD (((bitList b).length : Int) - 1).toNat 0) < n))) ?_
    refine TL.as (pB (decide (((bitList b).getD (((bitList b).length : Int) - 1).toNat 0) < n))) ?_
    refine TL.nil ?_
    refine T.ret ?_
    refine ⟨[(false, [.d (.bool (decide (((bitList b).getD (((bitList b).length : Int) - 1).toNat 0) < n)))])], (.cons rfl .nil), rfl, [], (RetC.rd' ?_ .nil)⟩ <;> (first | (congr 1; symm; unfold bitsOk; rw [bits_last (by omega), decide_eq_true (p := (1 ≤ n ∧ n ≤ 10)) (by omega), decide_eq_true (p := ((b.length : Int) = bitsSize n)) (by omega)]; rfl) | (congr 1; symm; simp only [bitsOk, *, Bool.and_true, Bool.true_and, Bool.and_false, Bool.false_and, decide_true, decide_false, and_true, true_and, and_self, and_false, false_and, Bool.and_self, not_true, not_false, Bool.not_true, Bool.not_false, ge_iff_le, gt_iff_lt, if_true, if_false, Bool.false_eq_true, ite_true, ite_false, reduceIte]; done) | (congr 1; symm; unfold bitsOk; rw [decide_eq_false (p := (1 ≤ n ∧ n ≤ 10)) (by omega)]; rfl) | (congr 1; symm; unfold bitsOk; rw [decide_eq_false (p := ((b.length : Int) = bitsSize n)) (by omega)]; simp; done) | (congr 1; symm; unfold bitsOk; rw [all_no (i := i) (by omega) (by omega)]; simp; done) | (congr 1; symm; unfold bitsOk; rw [List.take_of_length_le (by omega)] at hx2; rw [hx2, decide_eq_true (p := (1 ≤ n ∧ n ≤ 10)) (by omega), decide_eq_true (p := ((b.length : Int) = bitsSize n)) (by omega)]; rfl) | (congr 1; unfold bitsOk; rw [bits_last (by omega), decide_eq_true (p := (1 ≤ n ∧ n ≤ 10)) (by omega), decide_eq_true (p := ((b.length : Int) = bitsSize n)) (by omega)]; simp only [Bool.true_and]; rfl) | (congr 1; symm; unfold bitsOk; rw [List.eq_nil_of_length_eq_zero (l := bitList b) (by omega), decide_eq_true (p := (1 ≤ n ∧ n ≤ 10)) (by omega), decide_eq_true (p := ((b.length : Int) = bitsSize n)) (by omega)]; rfl))
theorem ok_spec_BitsCount (b : List Int) (h0_ : U8s b) (h1_ : b.length ≤ 1099511627776) : RO Try.prog 113 [.one (.ints .u8 b)] [(false, [.rd (.int .i64 ((bitList b).length : Int))])] := by
 refine RO.intro Try.func113 rfl 6 rfl (le_ok rfl) fun w Z => ?_
 refine T.bnd 0 0 rfl rfl fun hb_0_0 => ?_
 simp only [D.size, List.length_map] at hb_0_0
 refine T.seq ?_
 refine T.region ?_
 refine TL.as (pI 0) ?_
 refine TL.nil ?_
 refine T.seq ?_
 refine T.region ?_
 refine TL.mv (pS b) ?_
 have nn1 := bitList_len b
 refine TL.c (Step.cl (xs := [.tmp 3]) (ps := [(pS b)]) (g := .func 121) false (.cons (.one (.d _)) .nil) (ok_spec_BitsList b (by assumption) (by first | omega | assumption | (simp only [List.length_append] at *; omega)))) ?_
 refine TL.c (Step.len (e := 3) (z := 1) (d := (.ints .i64 (bitList b))) rfl rfl (lt_ok rfl) (by kernel_rfl) rfl rfl) ?_
 refine TL.as (pI ((bitList b).length : Int)) ?_
 refine TL.nil ?_
 refine T.ret ?_
 exact ⟨[(false, [.d (.int .i64 ((bitList b).length : Int))])], (.cons rfl .nil), rfl, [], (RetC.rd' rfl .nil)⟩
theorem ok_spec_QcOk (l : SLimits) (q : SQc) (h0_ : q.ok) (h1_ : q.sm) : RO Try.prog 95 [.agg l.cells, .agg q.cells] [(false, [.rd (.bool (qcOk l q))])] := by
 refine RO.intro Try.func95 rfl 43 rfl (le_ok rfl) fun w Z => ?_
 obtain ⟨o0, o1, o2, o3, o4⟩ := h0_
 obtain ⟨s0, s1, s2⟩ := h1_
 refine T.seq ?_
 refine T.region ?_
 refine TL.c (Step.box (p := (.agg [cI l.f0, cI l.f1, cI l.f2, cI l.f3, cI l.f4])) (ps := [cI l.f0, cI l.f1, cI l.f2, cI l.f3, cI l.f4]) rfl rfl (lt_ok rfl) rfl rfl rfl rfl rfl) ?_
 refine TL.c (Step.box (p := (.agg [cI q.f0, cI q.f1, cS q.f2, cS q.f3, .d (.bss q.f4)])) (ps := [cI q.f0, cI q.f1, cS q.f2, cS q.f3, .d (.bss q.f4)]) rfl rfl (lt_ok rfl) rfl rfl rfl rfl rfl) ?_
 refine TL.as (pB false) ?_
 refine TL.nil ?_
 refine T.seq ?_
 rcases Bool.eq_false_or_eq_true (limOk l) with hb1 | hb1
 ·
  rcases Bool.eq_false_or_eq_true (decide (0 ≤ q.f0 ∧ q.f0 ≤ 1152921504606846975)) with hb2 | hb2
  ·
   rcases Bool.eq_false_or_eq_true (decide (0 ≤ q.f1 ∧ q.f1 ≤ 1152921504606846975)) with hb3 | hb3
   ·
    rcases Bool.eq_false_or_eq_true (decide ((q.f2.length : Int) = 32)) with hb4 | hb4
    ·
     rcases Bool.eq_false_or_eq_true (bitsOk q.f3 l.f0) with hb5 | hb5
     ·
      have nn6 := bitList_len q.f3
      rcases Bool.eq_false_or_eq_true (decide ((q.f4.length : Int) = ((bitList q.f3).length : Int))) with hb7 | hb7
      ·
       have nn8 := bitList_len q.f3
       refine T.draw [⟨5, (.agg [cI l.f0, cI l.f1, cI l.f2, cI l.f3, cI l.f4]), []⟩, ⟨6, (pB true), []⟩, ⟨7, (pB true), []⟩, ⟨8, (.one (.ptr 3 0)), []⟩, ⟨9, (pI q.f0), []⟩, ⟨10, (pB true), []⟩, ⟨11, (pB true), []⟩, ⟨12, (pB true), []⟩, ⟨13, (.one (.ptr 3 1)), []⟩, ⟨14, (pI q.f1), []⟩, ⟨15, (pB true), []⟩, ⟨16, (pB true), []⟩, ⟨17, (pB true), []⟩, ⟨18, (.one (.ptr 3 2)), []⟩, ⟨19, (pS q.f2), []⟩, ⟨20, (pB true), []⟩, ⟨21, (pB true), []⟩, ⟨22, (pB true), []⟩, ⟨23, (.one (.ptr 3 3)), []⟩, ⟨24, (pS q.f3), []⟩, ⟨25, (.one (.ptr 2 0)), []⟩, ⟨26, (pI l.f0), []⟩, ⟨27, (pB true), []⟩, ⟨28, (pB true), []⟩, ⟨29, (pB true), []⟩, ⟨30, (.one (.ptr 3 4)), []⟩, ⟨31, (.one (.d (.bss q.f4))), []⟩, ⟨32, (pI (q.f4.length : Int)), []⟩, ⟨33, (.one (.ptr 3 3)), []⟩, ⟨34, (pS q.f3), []⟩, ⟨35, (pI ((bitList q.f3).length : Int)), []⟩, ⟨36, (pB true), []⟩, ⟨37, (pB true), []⟩, ⟨38, (pB true), []⟩, ⟨39, (.one (.ptr 3 4)), []⟩, ⟨40, (.one (.d (.bss q.f4))), []⟩, ⟨41, (pB (hashes q.f4)), []⟩, ⟨42, (pB (hashes q.f4)), []⟩, ⟨4, (pB (hashes q.f4)), []⟩] (by kernel_rfl) (by kernel_rfl) ?_ ?_
       ·
        refine .cons (fun E A => OpStep.plain rfl (Step.load_box_agg (n := 5) (qs := [cI l.f0, cI l.f1, cI l.f2, cI l.f3, cI l.f4]) (t := 5) rfl rfl (by exact lt_ok rfl) (by kernel_rfl) (A.g 2 rfl) (by exact A.box rfl) rfl rfl)) ?_
        refine .cons (fun E A => OpStep.plain rfl (Step.tb 6 (limOk l) hb1 (Step.cd (xs := [.tmp 5]) (ps := [(.agg [cI l.f0, cI l.f1, cI l.f2, cI l.f3, cI l.f4])]) (g := .func 93) false 6 (evs_cons (A.g 5 rfl) (rfl)) (.cons (.agg (.cons (.d _) (.cons (.d _) (.cons (.d _) (.cons (.d _) (.cons (.d _) .nil)))))) .nil) (ok_spec_LimitsOk l) (At.freshRows A rfl)))) ?_
        refine .cons (fun E A => A.mv 6 7) ?_
        refine .cons (fun E A => A.y 7 (Step.fa (off := 0) (n := 1) (one := true) 0 8 (A.g 3 rfl))) ?_
        refine .cons (fun E A => A.y 7 (Step.load_box (c := cI q.f0) (t := 9) rfl rfl (by exact lt_ok rfl) (by kernel_rfl) (A.g 8 rfl) (by exact A.box rfl) rfl)) ?_
        refine .cons (fun E A => A.y 7 (Step.tb 10 (decide (0 ≤ q.f0 ∧ q.f0 ≤ 1152921504606846975)) hb2 (Step.cd (xs := [.tmp 9]) (ps := [(pI q.f0)]) (g := .func 94) false 10 (evs_cons (A.g 9 rfl) (rfl)) (.cons (.one (.d _)) .nil) (ok_spec_l01Num q.f0) (At.freshRows A rfl)))) ?_
        refine .cons (fun E A => OpStep.plain rfl (Step.pick (b := true) (p := (pB true)) (t := 11) rfl rfl (by exact lt_ok rfl) (A.g 7 rfl) (A.g 10 rfl))) ?_
        refine .cons (fun E A => A.mv 11 12) ?_
        refine .cons (fun E A => A.y 12 (Step.fa (off := 1) (n := 1) (one := true) 0 13 (A.g 3 rfl))) ?_
        refine .cons (fun E A => A.y 12 (Step.load_box (c := cI q.f1) (t := 14) rfl rfl (by exact lt_ok rfl) (by kernel_rfl) (A.g 13 rfl) (by exact A.box rfl) rfl)) ?_
        refine .cons (fun E A => A.y 12 (Step.tb 15 (decide (0 ≤ q.f1 ∧ q.f1 ≤ 1152921504606846975)) hb3 (Step.cd (xs := [.tmp 14]) (ps := [(pI q.f1)]) (g := .func 94) false 15 (evs_cons (A.g 14 rfl) (rfl)) (.cons (.one (.d _)) .nil) (ok_spec_l01Num q.f1) (At.freshRows A rfl)))) ?_
        refine .cons (fun E A => OpStep.plain rfl (Step.pick (b := true) (p := (pB true)) (t := 16) rfl rfl (by exact lt_ok rfl) (A.g 12 rfl) (A.g 15 rfl))) ?_
        refine .cons (fun E A => A.mv 16 17) ?_
        refine .cons (fun E A => A.y 17 (Step.fa (off := 2) (n := 1) (one := true) 0 18 (A.g 3 rfl))) ?_
        refine .cons (fun E A => A.y 17 (Step.load_box (c := cS q.f2) (t := 19) rfl rfl (by exact lt_ok rfl) (by kernel_rfl) (A.g 18 rfl) (by exact A.box rfl) rfl)) ?_
        refine .cons (fun E A => A.y 17 (Step.tb 20 (decide ((q.f2.length : Int) = 32)) hb4 (Step.cd (xs := [.tmp 19]) (ps := [(pS q.f2)]) (g := .func 65) false 20 (evs_cons (A.g 19 rfl) (rfl)) (.cons (.one (.d _)) .nil) (ok_spec_l07Hash q.f2) (At.freshRows A rfl)))) ?_
        refine .cons (fun E A => OpStep.plain rfl (Step.pick (b := true) (p := (pB true)) (t := 21) rfl rfl (by exact lt_ok rfl) (A.g 17 rfl) (A.g 20 rfl))) ?_
        refine .cons (fun E A => A.mv 21 22) ?_
        refine .cons (fun E A => A.y 22 (Step.fa (off := 3) (n := 1) (one := true) 0 23 (A.g 3 rfl))) ?_
        refine .cons (fun E A => A.y 22 (Step.load_box (c := cS q.f3) (t := 24) rfl rfl (by exact lt_ok rfl) (by kernel_rfl) (A.g 23 rfl) (by exact A.box rfl) rfl)) ?_
        refine .cons (fun E A => A.y 22 (Step.fa (off := 0) (n := 1) (one := true) 0 25 (A.g 2 rfl))) ?_
        refine .cons (fun E A => A.y 22 (Step.load_box (c := cI l.f0) (t := 26) rfl rfl (by exact lt_ok rfl) (by kernel_rfl) (A.g 25 rfl) (by exact A.box rfl) rfl)) ?_
        refine .cons (fun E A => A.y 22 (Step.tb 27 (bitsOk q.f3 l.f0) hb5 (Step.cd (xs := [.tmp 24, .tmp 26]) (ps := [(pS q.f3), (pI l.f0)]) (g := .func 112) false 27 (evs_cons (A.g 24 rfl) (evs_cons (A.g 26 rfl) (rfl))) (.cons (.one (.d _)) (.cons (.one (.d _)) .nil)) (ok_spec_BitsOk q.f3 l.f0 (by assumption) (by first | omega | assumption | (simp only [List.length_append] at *; omega))) (At.freshRows A rfl)))) ?_
        refine .cons (fun E A => OpStep.plain rfl (Step.pick (b := true) (p := (pB true)) (t := 28) rfl rfl (by exact lt_ok rfl) (A.g 22 rfl) (A.g 27 rfl))) ?_
        refine .cons (fun E A => A.mv 28 29) ?_
        refine .cons (fun E A => A.y 29 (Step.fa (off := 4) (n := 1) (one := true) 0 30 (A.g 3 rfl))) ?_
        refine .cons (fun E A => A.y 29 (Step.load_box (c := .d (.bss q.f4)) (t := 31) rfl rfl (by exact lt_ok rfl) (by kernel_rfl) (A.g 30 rfl) (by exact A.box rfl) rfl)) ?_
        refine .cons (fun E A => A.y 29 (Step.len (e := 22) (z := 1) (d := (.bss q.f4)) (t := 32) rfl rfl (by exact lt_ok rfl) (by kernel_rfl) (A.g 31 rfl) rfl)) ?_
        refine .cons (fun E A => A.y 29 (Step.fa (off := 3) (n := 1) (one := true) 0 33 (A.g 3 rfl))) ?_
        refine .cons (fun E A => A.y 29 (Step.load_box (c := cS q.f3) (t := 34) rfl rfl (by exact lt_ok rfl) (by kernel_rfl) (A.g 33 rfl) (by exact A.box rfl) rfl)) ?_
        refine .cons (fun E A => A.y 29 (Step.cd (xs := [.tmp 34]) (ps := [(pS q.f3)]) (g := .func 113) false 35 (evs_cons (A.g 34 rfl) (rfl)) (.cons (.one (.d _)) .nil) (ok_spec_BitsCount q.f3 (by first | assumption | exact fun x hx => by cases hx) (by first | omega | assumption | (simp only [List.length_append] at *; omega) | (simp; done))) (At.freshRows A rfl))) ?_
        refine .cons (fun E A => A.y 29 (Step.tb 36 (decide ((q.f4.length : Int) = ((bitList q.f3).length : Int))) hb7 (Step.bd 36 (A.g 32 rfl) (A.g 35 rfl) (Bin.eql (k := .i64) (a := (q.f4.length : Int)) (b := ((bitList q.f3).length : Int)))))) ?_
        refine .cons (fun E A => OpStep.plain rfl (Step.pick (b := true) (p := (pB true)) (t := 37) rfl rfl (by exact lt_ok rfl) (A.g 29 rfl) (A.g 36 rfl))) ?_
        refine .cons (fun E A => A.mv 37 38) ?_
        refine .cons (fun E A => A.y 38 (Step.fa (off := 4) (n := 1) (one := true) 0 39 (A.g 3 rfl))) ?_
        refine .cons (fun E A => A.y 38 (Step.load_box (c := .d (.bss q.f4)) (t := 40) rfl rfl (by exact lt_ok rfl) (by kernel_rfl) (A.g 39 rfl) (by exact A.box rfl) rfl)) ?_
        refine .cons (fun E A => A.y 38 (Step.cd (xs := [.tmp 40]) (ps := [(.one (.d (.bss q.f4)))]) (g := .func 68) false 41 (evs_cons (A.g 40 rfl) (rfl)) (.cons (.one (.d _)) .nil) (ok_spec_l08Hashes q.f4) (At.freshRows A rfl))) ?_
        refine .cons (fun E A => OpStep.plain rfl (Step.pick (b := true) (p := (pB (hashes q.f4))) (t := 42) rfl rfl (by exact lt_ok rfl) (A.g 38 rfl) (A.g 41 rfl))) ?_
        refine .cons (fun E A => A.as 42 4) ?_
        exact .nil _ _
       refine TL.nil ?_
       refine T.ret ?_
       refine ⟨[(false, [.d (.bool (hashes q.f4))])], (.cons rfl .nil), rfl, [], (RetC.rd' ?_ .nil)⟩ <;> (first | rfl | (congr 1; symm; simp only [qcOk, hashes, List.all_cons, List.all_nil, *, Bool.and_true, Bool.true_and, Bool.and_false, Bool.false_and, decide_true, decide_false, and_true, true_and, and_self, and_false, false_and, Bool.and_self, not_true, not_false, Bool.not_true, Bool.not_false, ge_iff_le, gt_iff_lt, if_true, if_false, Bool.false_eq_true, ite_true, ite_false, reduceIte]; done) | (congr 1; symm; simp_all [qcOk, hashes, List.all_cons, List.all_nil]; done) | (congr 1; symm; simp_all [qcOk, hashes, List.all_cons, List.all_nil]; omega))
      ·
       have nn9 := bitList_len q.f3
       refine T.draw [⟨5, (.agg [cI l.f0, cI l.f1, cI l.f2, cI l.f3, cI l.f4]), []⟩, ⟨6, (pB true), []⟩, ⟨7, (pB true), []⟩, ⟨8, (.one (.ptr 3 0)), []⟩, ⟨9, (pI q.f0), []⟩, ⟨10, (pB true), []⟩, ⟨11, (pB true), []⟩, ⟨12, (pB true), []⟩, ⟨13, (.one (.ptr 3 1)), []⟩, ⟨14, (pI q.f1), []⟩, ⟨15, (pB true), []⟩, ⟨16, (pB true), []⟩, ⟨17, (pB true), []⟩, ⟨18, (.one (.ptr 3 2)), []⟩, ⟨19, (pS q.f2), []⟩, ⟨20, (pB true), []⟩, ⟨21, (pB true), []⟩, ⟨22, (pB true), []⟩, ⟨23, (.one (.ptr 3 3)), []⟩, ⟨24, (pS q.f3), []⟩, ⟨25, (.one (.ptr 2 0)), []⟩, ⟨26, (pI l.f0), []⟩, ⟨27, (pB true), []⟩, ⟨28, (pB true), []⟩, ⟨29, (pB true), []⟩, ⟨30, (.one (.ptr 3 4)), []⟩, ⟨31, (.one (.d (.bss q.f4))), []⟩, ⟨32, (pI (q.f4.length : Int)), []⟩, ⟨33, (.one (.ptr 3 3)), []⟩, ⟨34, (pS q.f3), []⟩, ⟨35, (pI ((bitList q.f3).length : Int)), []⟩, ⟨36, (pB false), []⟩, ⟨37, (pB false), []⟩, ⟨38, (pB false), []⟩, ⟨39, (.tup []), []⟩, ⟨40, (.tup []), []⟩, ⟨41, (.tup []), []⟩, ⟨42, (pB false), []⟩, ⟨4, (pB false), []⟩] (by kernel_rfl) (by kernel_rfl) ?_ ?_
       ·
        refine .cons (fun E A => OpStep.plain rfl (Step.load_box_agg (n := 5) (qs := [cI l.f0, cI l.f1, cI l.f2, cI l.f3, cI l.f4]) (t := 5) rfl rfl (by exact lt_ok rfl) (by kernel_rfl) (A.g 2 rfl) (by exact A.box rfl) rfl rfl)) ?_
        refine .cons (fun E A => OpStep.plain rfl (Step.tb 6 (limOk l) hb1 (Step.cd (xs := [.tmp 5]) (ps := [(.agg [cI l.f0, cI l.f1, cI l.f2, cI l.f3, cI l.f4])]) (g := .func 93) false 6 (evs_cons (A.g 5 rfl) (rfl)) (.cons (.agg (.cons (.d _) (.cons (.d _) (.cons (.d _) (.cons (.d _) (.cons (.d _) .nil)))))) .nil) (ok_spec_LimitsOk l) (At.freshRows A rfl)))) ?_
        refine .cons (fun E A => A.mv 6 7) ?_
        refine .cons (fun E A => A.y 7 (Step.fa (off := 0) (n := 1) (one := true) 0 8 (A.g 3 rfl))) ?_
        refine .cons (fun E A => A.y 7 (Step.load_box (c := cI q.f0) (t := 9) rfl rfl (by exact lt_ok rfl) (by kernel_rfl) (A.g 8 rfl) (by exact A.box rfl) rfl)) ?_
        refine .cons (fun E A => A.y 7 (Step.tb 10 (decide (0 ≤ q.f0 ∧ q.f0 ≤ 1152921504606846975)) hb2 (Step.cd (xs := [.tmp 9]) (ps := [(pI q.f0)]) (g := .func 94) false 10 (evs_cons (A.g 9 rfl) (rfl)) (.cons (.one (.d _)) .nil) (ok_spec_l01Num q.f0) (At.freshRows A rfl)))) ?_
        refine .cons (fun E A => OpStep.plain rfl (Step.pick (b := true) (p := (pB true)) (t := 11) rfl rfl (by exact lt_ok rfl) (A.g 7 rfl) (A.g 10 rfl))) ?_
        refine .cons (fun E A => A.mv 11 12) ?_
        refine .cons (fun E A => A.y 12 (Step.fa (off := 1) (n := 1) (one := true) 0 13 (A.g 3 rfl))) ?_
        refine .cons (fun E A => A.y 12 (Step.load_box (c := cI q.f1) (t := 14) rfl rfl (by exact lt_ok rfl) (by kernel_rfl) (A.g 13 rfl) (by exact A.box rfl) rfl)) ?_
        refine .cons (fun E A => A.y 12 (Step.tb 15 (decide (0 ≤ q.f1 ∧ q.f1 ≤ 1152921504606846975)) hb3 (Step.cd (xs := [.tmp 14]) (ps := [(pI q.f1)]) (g := .func 94) false 15 (evs_cons (A.g 14 rfl) (rfl)) (.cons (.one (.d _)) .nil) (ok_spec_l01Num q.f1) (At.freshRows A rfl)))) ?_
        refine .cons (fun E A => OpStep.plain rfl (Step.pick (b := true) (p := (pB true)) (t := 16) rfl rfl (by exact lt_ok rfl) (A.g 12 rfl) (A.g 15 rfl))) ?_
        refine .cons (fun E A => A.mv 16 17) ?_
        refine .cons (fun E A => A.y 17 (Step.fa (off := 2) (n := 1) (one := true) 0 18 (A.g 3 rfl))) ?_
        refine .cons (fun E A => A.y 17 (Step.load_box (c := cS q.f2) (t := 19) rfl rfl (by exact lt_ok rfl) (by kernel_rfl) (A.g 18 rfl) (by exact A.box rfl) rfl)) ?_
        refine .cons (fun E A => A.y 17 (Step.tb 20 (decide ((q.f2.length : Int) = 32)) hb4 (Step.cd (xs := [.tmp 19]) (ps := [(pS q.f2)]) (g := .func 65) false 20 (evs_cons (A.g 19 rfl) (rfl)) (.cons (.one (.d _)) .nil) (ok_spec_l07Hash q.f2) (At.freshRows A rfl)))) ?_
        refine .cons (fun E A => OpStep.plain rfl (Step.pick (b := true) (p := (pB true)) (t := 21) rfl rfl (by exact lt_ok rfl) (A.g 17 rfl) (A.g 20 rfl))) ?_
        refine .cons (fun E A => A.mv 21 22) ?_
        refine .cons (fun E A => A.y 22 (Step.fa (off := 3) (n := 1) (one := true) 0 23 (A.g 3 rfl))) ?_
        refine .cons (fun E A => A.y 22 (Step.load_box (c := cS q.f3) (t := 24) rfl rfl (by exact lt_ok rfl) (by kernel_rfl) (A.g 23 rfl) (by exact A.box rfl) rfl)) ?_
        refine .cons (fun E A => A.y 22 (Step.fa (off := 0) (n := 1) (one := true) 0 25 (A.g 2 rfl))) ?_
        refine .cons (fun E A => A.y 22 (Step.load_box (c := cI l.f0) (t := 26) rfl rfl (by exact lt_ok rfl) (by kernel_rfl) (A.g 25 rfl) (by exact A.box rfl) rfl)) ?_
        refine .cons (fun E A => A.y 22 (Step.tb 27 (bitsOk q.f3 l.f0) hb5 (Step.cd (xs := [.tmp 24, .tmp 26]) (ps := [(pS q.f3), (pI l.f0)]) (g := .func 112) false 27 (evs_cons (A.g 24 rfl) (evs_cons (A.g 26 rfl) (rfl))) (.cons (.one (.d _)) (.cons (.one (.d _)) .nil)) (ok_spec_BitsOk q.f3 l.f0 (by assumption) (by first | omega | assumption | (simp only [List.length_append] at *; omega))) (At.freshRows A rfl)))) ?_
        refine .cons (fun E A => OpStep.plain rfl (Step.pick (b := true) (p := (pB true)) (t := 28) rfl rfl (by exact lt_ok rfl) (A.g 22 rfl) (A.g 27 rfl))) ?_
        refine .cons (fun E A => A.mv 28 29) ?_
        refine .cons (fun E A => A.y 29 (Step.fa (off := 4) (n := 1) (one := true) 0 30 (A.g 3 rfl))) ?_
        refine .cons (fun E A => A.y 29 (Step.load_box (c := .d (.bss q.f4)) (t := 31) rfl rfl (by exact lt_ok rfl) (by kernel_rfl) (A.g 30 rfl) (by exact A.box rfl) rfl)) ?_
        refine .cons (fun E A => A.y 29 (Step.len (e := 22) (z := 1) (d := (.bss q.f4)) (t := 32) rfl rfl (by exact lt_ok rfl) (by kernel_rfl) (A.g 31 rfl) rfl)) ?_
        refine .cons (fun E A => A.y 29 (Step.fa (off := 3) (n := 1) (one := true) 0 33 (A.g 3 rfl))) ?_
        refine .cons (fun E A => A.y 29 (Step.load_box (c := cS q.f3) (t := 34) rfl rfl (by exact lt_ok rfl) (by kernel_rfl) (A.g 33 rfl) (by exact A.box rfl) rfl)) ?_
        refine .cons (fun E A => A.y 29 (Step.cd (xs := [.tmp 34]) (ps := [(pS q.f3)]) (g := .func 113) false 35 (evs_cons (A.g 34 rfl) (rfl)) (.cons (.one (.d _)) .nil) (ok_spec_BitsCount q.f3 (by first | assumption | exact fun x hx => by cases hx) (by first | omega | assumption | (simp only [List.length_append] at *; omega) | (simp; done))) (At.freshRows A rfl))) ?_
        refine .cons (fun E A => A.y 29 (Step.tb 36 (decide ((q.f4.length : Int) = ((bitList q.f3).length : Int))) hb7 (Step.bd 36 (A.g 32 rfl) (A.g 35 rfl) (Bin.eql (k := .i64) (a := (q.f4.length : Int)) (b := ((bitList q.f3).length : Int)))))) ?_
        refine .cons (fun E A => OpStep.plain rfl (Step.pick (b := true) (p := (pB false)) (t := 37) rfl rfl (by exact lt_ok rfl) (A.g 29 rfl) (A.g 36 rfl))) ?_
        refine .cons (fun E A => A.mv 37 38) ?_
        refine .cons (fun E A => A.of 38) ?_
        refine .cons (fun E A => A.of 38) ?_
        refine .cons (fun E A => A.of 38) ?_
        refine .cons (fun E A => OpStep.plain rfl (Step.pick (b := false) (p := (pB false)) (t := 42) rfl rfl (by exact lt_ok rfl) (A.g 38 rfl) rfl)) ?_
        refine .cons (fun E A => A.as 42 4) ?_
        exact .nil _ _
       refine TL.nil ?_
       refine T.ret ?_
       refine ⟨[(false, [.d (.bool false)])], (.cons rfl .nil), rfl, [], (RetC.rd' ?_ .nil)⟩ <;> (first | rfl | (congr 1; symm; simp only [qcOk, hashes, List.all_cons, List.all_nil, *, Bool.and_true, Bool.true_and, Bool.and_false, Bool.false_and, decide_true, decide_false, and_true, true_and, and_self, and_false, false_and, Bool.and_self, not_true, not_false, Bool.not_true, Bool.not_false, ge_iff_le, gt_iff_lt, if_true, if_false, Bool.false_eq_true, ite_true, ite_false, reduceIte]; done) | (congr 1; symm; simp_all [qcOk, hashes, List.all_cons, List.all_nil]; done) | (congr 1; symm; simp_all [qcOk, hashes, List.all_cons, List.all_nil]; omega))
     ·
      refine T.draw [⟨5, (.agg [cI l.f0, cI l.f1, cI l.f2, cI l.f3, cI l.f4]), []⟩, ⟨6, (pB true), []⟩, ⟨7, (pB true), []⟩, ⟨8, (.one (.ptr 3 0)), []⟩, ⟨9, (pI q.f0), []⟩, ⟨10, (pB true), []⟩, ⟨11, (pB true), []⟩, ⟨12, (pB true), []⟩, ⟨13, (.one (.ptr 3 1)), []⟩, ⟨14, (pI q.f1), []⟩, ⟨15, (pB true), []⟩, ⟨16, (pB true), []⟩, ⟨17, (pB true), []⟩, ⟨18, (.one (.ptr 3 2)), []⟩, ⟨19, (pS q.f2), []⟩, ⟨20, (pB true), []⟩, ⟨21, (pB true), []⟩, ⟨22, (pB true), []⟩, ⟨23, (.one (.ptr 3 3)), []⟩, ⟨24, (pS q.f3), []⟩, ⟨25, (.one (.ptr 2 0)), []⟩, ⟨26, (pI l.f0), []⟩, ⟨27, (pB false), []⟩, ⟨28, (pB false), []⟩, ⟨29, (pB false), []⟩, ⟨30, (.tup []), []⟩, ⟨31, (.tup []), []⟩, ⟨32, (.tup []), []⟩, ⟨33, (.tup []), []⟩, ⟨34, (.tup []), []⟩, ⟨35, (.tup []), []⟩, ⟨36, (.tup []), []⟩, ⟨37, (pB false), []⟩, ⟨38, (pB false), []⟩, ⟨39, (.tup []), []⟩, ⟨40, (.tup []), []⟩, ⟨41, (.tup []), []⟩, ⟨42, (pB false), []⟩, ⟨4, (pB false), []⟩] (by kernel_rfl) (by kernel_rfl) ?_ ?_
      ·
       refine .cons (fun E A => OpStep.plain rfl (Step.load_box_agg (n := 5) (qs := [cI l.f0, cI l.f1, cI l.f2, cI l.f3, cI l.f4]) (t := 5) rfl rfl (by exact lt_ok rfl) (by kernel_rfl) (A.g 2 rfl) (by exact A.box rfl) rfl rfl)) ?_
       refine .cons (fun E A => OpStep.plain rfl (Step.tb 6 (limOk l) hb1 (Step.cd (xs := [.tmp 5]) (ps := [(.agg [cI l.f0, cI l.f1, cI l.f2, cI l.f3, cI l.f4])]) (g := .func 93) false 6 (evs_cons (A.g 5 rfl) (rfl)) (.cons (.agg (.cons (.d _) (.cons (.d _) (.cons (.d _) (.cons (.d _) (.cons (.d _) .nil)))))) .nil) (ok_spec_LimitsOk l) (At.freshRows A rfl)))) ?_
       refine .cons (fun E A => A.mv 6 7) ?_
       refine .cons (fun E A => A.y 7 (Step.fa (off := 0) (n := 1) (one := true) 0 8 (A.g 3 rfl))) ?_
       refine .cons (fun E A => A.y 7 (Step.load_box (c := cI q.f0) (t := 9) rfl rfl (by exact lt_ok rfl) (by kernel_rfl) (A.g 8 rfl) (by exact A.box rfl) rfl)) ?_
       refine .cons (fun E A => A.y 7 (Step.tb 10 (decide (0 ≤ q.f0 ∧ q.f0 ≤ 1152921504606846975)) hb2 (Step.cd (xs := [.tmp 9]) (ps := [(pI q.f0)]) (g := .func 94) false 10 (evs_cons (A.g 9 rfl) (rfl)) (.cons (.one (.d _)) .nil) (ok_spec_l01Num q.f0) (At.freshRows A rfl)))) ?_
       refine .cons (fun E A => OpStep.plain rfl (Step.pick (b := true) (p := (pB true)) (t := 11) rfl rfl (by exact lt_ok rfl) (A.g 7 rfl) (A.g 10 rfl))) ?_
       refine .cons (fun E A => A.mv 11 12) ?_
       refine .cons (fun E A => A.y 12 (Step.fa (off := 1) (n := 1) (one := true) 0 13 (A.g 3 rfl))) ?_
       refine .cons (fun E A => A.y 12 (Step.load_box (c := cI q.f1) (t := 14) rfl rfl (by exact lt_ok rfl) (by kernel_rfl) (A.g 13 rfl) (by exact A.box rfl) rfl)) ?_
       refine .cons (fun E A => A.y 12 (Step.tb 15 (decide (0 ≤ q.f1 ∧ q.f1 ≤ 1152921504606846975)) hb3 (Step.cd (xs := [.tmp 14]) (ps := [(pI q.f1)]) (g := .func 94) false 15 (evs_cons (A.g 14 rfl) (rfl)) (.cons (.one (.d _)) .nil) (ok_spec_l01Num q.f1) (At.freshRows A rfl)))) ?_
       refine .cons (fun E A => OpStep.plain rfl (Step.pick (b := true) (p := (pB true)) (t := 16) rfl rfl (by exact lt_ok rfl) (A.g 12 rfl) (A.g 15 rfl))) ?_
       refine .cons (fun E A => A.mv 16 17) ?_
       refine .cons (fun E A => A.y 17 (Step.fa (off := 2) (n := 1) (one := true) 0 18 (A.g 3 rfl))) ?_
       refine .cons (fun E A => A.y 17 (Step.load_box (c := cS q.f2) (t := 19) rfl rfl (by exact lt_ok rfl) (by kernel_rfl) (A.g 18 rfl) (by exact A.box rfl) rfl)) ?_
       refine .cons (fun E A => A.y 17 (Step.tb 20 (decide ((q.f2.length : Int) = 32)) hb4 (Step.cd (xs := [.tmp 19]) (ps := [(pS q.f2)]) (g := .func 65) false 20 (evs_cons (A.g 19 rfl) (rfl)) (.cons (.one (.d _)) .nil) (ok_spec_l07Hash q.f2) (At.freshRows A rfl)))) ?_
       refine .cons (fun E A => OpStep.plain rfl (Step.pick (b := true) (p := (pB true)) (t := 21) rfl rfl (by exact lt_ok rfl) (A.g 17 rfl) (A.g 20 rfl))) ?_
       refine .cons (fun E A => A.mv 21 22) ?_
       refine .cons (fun E A => A.y 22 (Step.fa (off := 3) (n := 1) (one := true) 0 23 (A.g 3 rfl))) ?_
       refine .cons (fun E A => A.y 22 (Step.load_box (c := cS q.f3) (t := 24) rfl rfl (by exact lt_ok rfl) (by kernel_rfl) (A.g 23 rfl) (by exact A.box rfl) rfl)) ?_
       refine .cons (fun E A => A.y 22 (Step.fa (off := 0) (n := 1) (one := true) 0 25 (A.g 2 rfl))) ?_
       refine .cons (fun E A => A.y 22 (Step.load_box (c := cI l.f0) (t := 26) rfl rfl (by exact lt_ok rfl) (by kernel_rfl) (A.g 25 rfl) (by exact A.box rfl) rfl)) ?_
       refine .cons (fun E A => A.y 22 (Step.tb 27 (bitsOk q.f3 l.f0) hb5 (Step.cd (xs := [.tmp 24, .tmp 26]) (ps := [(pS q.f3), (pI l.f0)]) (g := .func 112) false 27 (evs_cons (A.g 24 rfl) (evs_cons (A.g 26 rfl) (rfl))) (.cons (.one (.d _)) (.cons (.one (.d _)) .nil)) (ok_spec_BitsOk q.f3 l.f0 (by assumption) (by first | omega | assumption | (simp only [List.length_append] at *; omega))) (At.freshRows A rfl)))) ?_
       refine .cons (fun E A => OpStep.plain rfl (Step.pick (b := true) (p := (pB false)) (t := 28) rfl rfl (by exact lt_ok rfl) (A.g 22 rfl) (A.g 27 rfl))) ?_
       refine .cons (fun E A => A.mv 28 29) ?_
       refine .cons (fun E A => A.of 29) ?_
       refine .cons (fun E A => A.of 29) ?_
       refine .cons (fun E A => A.of 29) ?_
       refine .cons (fun E A => A.of 29) ?_
       refine .cons (fun E A => A.of 29) ?_
       refine .cons (fun E A => A.of 29) ?_
       refine .cons (fun E A => A.of 29) ?_
       refine .cons (fun E A => OpStep.plain rfl (Step.pick (b := false) (p := (pB false)) (t := 37) rfl rfl (by exact lt_ok rfl) (A.g 29 rfl) rfl)) ?_
       refine .cons (fun E A => A.mv 37 38) ?_
       refine .cons (fun E A => A.of 38) ?_
       refine .cons (fun E A => A.of 38) ?_
       refine .cons (fun E A => A.of 38) ?_
       refine .cons (fun E A => OpStep.plain rfl (Step.pick (b := false) (p := (pB false)) (t := 42) rfl rfl (by exact lt_ok rfl) (A.g 38 rfl) rfl)) ?_
       refine .cons (fun E A => A.as 42 4) ?_
       exact .nil _ _
      refine TL.nil ?_
      refine T.ret ?_
      refine ⟨[(false, [.d (.bool false)])], (.cons rfl .nil), rfl, [], (RetC.rd' ?_ .nil)⟩ <;> (first | rfl | (congr 1; symm; simp only [qcOk, hashes, List.all_cons, List.all_nil, *, Bool.and_true, Bool.true_and, Bool.and_false, Bool.false_and, decide_true, decide_false, and_true, true_and, and_self, and_false, false_and, Bool.and_self, not_true, not_false, Bool.not_true, Bool.not_false, ge_iff_le, gt_iff_lt, if_true, if_false, Bool.false_eq_true, ite_true, ite_false, reduceIte]; done) | (congr 1; symm; simp_all [qcOk, hashes, List.all_cons, List.all_nil]; done) | (congr 1; symm; simp_all [qcOk, hashes, List.all_cons, List.all_nil]; omega))
    ·
     refine T.draw [⟨5, (.agg [cI l.f0, cI l.f1, cI l.f2, cI l.f3, cI l.f4]), []⟩, ⟨6, (pB true), []⟩, ⟨7, (pB true), []⟩, ⟨8, (.one (.ptr 3 0)), []⟩, ⟨9, (pI q.f0), []⟩, ⟨10, (pB true), []⟩, ⟨11, (pB true), []⟩, ⟨12, (pB true), []⟩, ⟨13, (.one (.ptr 3 1)), []⟩, ⟨14, (pI q.f1), []⟩, ⟨15, (pB true), []⟩, ⟨16, (pB true), []⟩, ⟨17, (pB true), []⟩, ⟨18, (.one (.ptr 3 2)), []⟩, ⟨19, (pS q.f2), []⟩, ⟨20, (pB false), []⟩, ⟨21, (pB false), []⟩, ⟨22, (pB false), []⟩, ⟨23, (.tup []), []⟩, ⟨24, (.tup []), []⟩, ⟨25, (.tup []), []⟩, ⟨26, (.tup []), []⟩, ⟨27, (.tup []), []⟩, ⟨28, (pB false), []⟩, ⟨29, (pB false), []⟩, ⟨30, (.tup []), []⟩, ⟨31, (.tup []), []⟩, ⟨32, (.tup []), []⟩, ⟨33, (.tup []), []⟩, ⟨34, (.tup []), []⟩, ⟨35, (.tup []), []⟩, ⟨36, (.tup []), []⟩, ⟨37, (pB false), []⟩, ⟨38, (pB false), []⟩, ⟨39, (.tup []), []⟩, ⟨40, (.tup []), []⟩, ⟨41, (.tup []), []⟩, ⟨42, (pB false), []⟩, ⟨4, (pB false), []⟩] (by kernel_rfl) (by kernel_rfl) ?_ ?_
     ·
      refine .cons (fun E A => OpStep.plain rfl (Step.load_box_agg (n := 5) (qs := [cI l.f0, cI l.f1, cI l.f2, cI l.f3, cI l.f4]) (t := 5) rfl rfl (by exact lt_ok rfl) (by kernel_rfl) (A.g 2 rfl) (by exact A.box rfl) rfl rfl)) ?_
      refine .cons (fun E A => OpStep.plain rfl (Step.tb 6 (limOk l) hb1 (Step.cd (xs := [.tmp 5]) (ps := [(.agg [cI l.f0, cI l.f1, cI l.f2, cI l.f3, cI l.f4])]) (g := .func 93) false 6 (evs_cons (A.g 5 rfl) (rfl)) (.cons (.agg (.cons (.d _) (.cons (.d _) (.cons (.d _) (.cons (.d _) (.cons (.d _) .nil)))))) .nil) (ok_spec_LimitsOk l) (At.freshRows A rfl)))) ?_
      refine .cons (fun E A => A.mv 6 7) ?_
      refine .cons (fun E A => A.y 7 (Step.fa (off := 0) (n := 1) (one := true) 0 8 (A.g 3 rfl))) ?_
      refine .cons (fun E A => A.y 7 (Step.load_box (c := cI q.f0) (t := 9) rfl rfl (by exact lt_ok rfl) (by kernel_rfl) (A.g 8 rfl) (by exact A.box rfl) rfl)) ?_
      refine .cons (fun E A => A.y 7 (Step.tb 10 (decide (0 ≤ q.f0 ∧ q.f0 ≤ 1152921504606846975)) hb2 (Step.cd (xs := [.tmp 9]) (ps := [(pI q.f0)]) (g := .func 94) false 10 (evs_cons (A.g 9 rfl) (rfl)) (.cons (.one (.d _)) .nil) (ok_spec_l01Num q.f0) (At.freshRows A rfl)))) ?_
      refine .cons (fun E A => OpStep.plain rfl (Step.pick (b := true) (p := (pB true)) (t := 11) rfl rfl (by exact lt_ok rfl) (A.g 7 rfl) (A.g 10 rfl))) ?_
      refine .cons (fun E A => A.mv 11 12) ?_
      refine .cons (fun E A => A.y 12 (Step.fa (off := 1) (n := 1) (one := true) 0 13 (A.g 3 rfl))) ?_
      refine .cons (fun E A => A.y 12 (Step.load_box (c := cI q.f1) (t := 14) rfl rfl (by exact lt_ok rfl) (by kernel_rfl) (A.g 13 rfl) (by exact A.box rfl) rfl)) ?_
      refine .cons (fun E A => A.y 12 (Step.tb 15 (decide (0 ≤ q.f1 ∧ q.f1 ≤ 1152921504606846975)) hb3 (Step.cd (xs := [.tmp 14]) (ps := [(pI q.f1)]) (g := .func 94) false 15 (evs_cons (A.g 14 rfl) (rfl)) (.cons (.one (.d _)) .nil) (ok_spec_l01Num q.f1) (At.freshRows A rfl)))) ?_
      refine .cons (fun E A => OpStep.plain rfl (Step.pick (b := true) (p := (pB true)) (t := 16) rfl rfl (by exact lt_ok rfl) (A.g 12 rfl) (A.g 15 rfl))) ?_
      refine .cons (fun E A => A.mv 16 17) ?_
      refine .cons (fun E A => A.y 17 (Step.fa (off := 2) (n := 1) (one := true) 0 18 (A.g 3 rfl))) ?_
      refine .cons (fun E A => A.y 17 (Step.load_box (c := cS q.f2) (t := 19) rfl rfl (by exact lt_ok rfl) (by kernel_rfl) (A.g 18 rfl) (by exact A.box rfl) rfl)) ?_
      refine .cons (fun E A => A.y 17 (Step.tb 20 (decide ((q.f2.length : Int) = 32)) hb4 (Step.cd (xs := [.tmp 19]) (ps := [(pS q.f2)]) (g := .func 65) false 20 (evs_cons (A.g 19 rfl) (rfl)) (.cons (.one (.d _)) .nil) (ok_spec_l07Hash q.f2) (At.freshRows A rfl)))) ?_
      refine .cons (fun E A => OpStep.plain rfl (Step.pick (b := true) (p := (pB false)) (t := 21) rfl rfl (by exact lt_ok rfl) (A.g 17 rfl) (A.g 20 rfl))) ?_
      refine .cons (fun E A => A.mv 21 22) ?_
      refine .cons (fun E A => A.of 22) ?_
      refine .cons (fun E A => A.of 22) ?_
      refine .cons (fun E A => A.of 22) ?_
      refine .cons (fun E A => A.of 22) ?_
      refine .cons (fun E A => A.of 22) ?_
      refine .cons (fun E A => OpStep.plain rfl (Step.pick (b := false) (p := (pB false)) (t := 28) rfl rfl (by exact lt_ok rfl) (A.g 22 rfl) rfl)) ?_
      refine .cons (fun E A => A.mv 28 29) ?_
      refine .cons (fun E A => A.of 29) ?_
      refine .cons (fun E A => A.of 29) ?_
      refine .cons (fun E A => A.of 29) ?_
      refine .cons (fun E A => A.of 29) ?_
      refine .cons (fun E A => A.of 29) ?_
      refine .cons (fun E A => A.of 29) ?_
      refine .cons (fun E A => A.of 29) ?_
      refine .cons (fun E A => OpStep.plain rfl (Step.pick (b := false) (p := (pB false)) (t := 37) rfl rfl (by exact lt_ok rfl) (A.g 29 rfl) rfl)) ?_
      refine .cons (fun E A => A.mv 37 38) ?_
      refine .cons (fun E A => A.of 38) ?_
      refine .cons (fun E A => A.of 38) ?_
      refine .cons (fun E A => A.of 38) ?_
      refine .cons (fun E A => OpStep.plain rfl (Step.pick (b := false) (p := (pB false)) (t := 42) rfl rfl (by exact lt_ok rfl) (A.g 38 rfl) rfl)) ?_
      refine .cons (fun E A => A.as 42 4) ?_
      exact .nil _ _
     refine TL.nil ?_
     refine T.ret ?_
     refine ⟨[(false, [.d (.bool false)])], (.cons rfl .nil), rfl, [], (RetC.rd' ?_ .nil)⟩ <;> (first | rfl | (congr 1; symm; simp only [qcOk, hashes, List.all_cons, List.all_nil, *, Bool.and_true, Bool.true_and, Bool.and_false, Bool.false_and, decide_true, decide_false, and_true, true_and, and_self, and_false, false_and, Bool.and_self, not_true, not_false, Bool.not_true, Bool.not_false, ge_iff_le, gt_iff_lt, if_true, if_false, Bool.false_eq_true, ite_true, ite_false, reduceIte]; done) | (congr 1; symm; simp_all [qcOk, hashes, List.all_cons, List.all_nil]; done) | (congr 1; symm; simp_all [qcOk, hashes, List.all_cons, List.all_nil]; omega))
   ·
    refine T.draw [⟨5, (.agg [cI l.f0, cI l.f1, cI l.f2, cI l.f3, cI l.f4]), []⟩, ⟨6, (pB true), []⟩, ⟨7, (pB true), []⟩, ⟨8, (.one (.ptr 3 0)), []⟩, ⟨9, (pI q.f0), []⟩, ⟨10, (pB true), []⟩, ⟨11, (pB true), []⟩, ⟨12, (pB true), []⟩, ⟨13, (.one (.ptr 3 1)), []⟩, ⟨14, (pI q.f1), []⟩, ⟨15, (pB false), []⟩, ⟨16, (pB false), []⟩, ⟨17, (pB false), []⟩, ⟨18, (.tup []), []⟩, ⟨19, (.tup []), []⟩, ⟨20, (.tup []), []⟩, ⟨21, (pB false), []⟩, ⟨22, (pB false), []⟩, ⟨23, (.tup []), []⟩, ⟨24, (.tup []), []⟩, ⟨25, (.tup []), []⟩, ⟨26, (.tup []), []⟩, ⟨27, (.tup []), []⟩, ⟨28, (pB false), []⟩, ⟨29, (pB false), []⟩, ⟨30, (.tup []), []⟩, ⟨31, (.tup []), []⟩, ⟨32, (.tup []), []⟩, ⟨33, (.tup []), []⟩, ⟨34, (.tup []), []⟩, ⟨35, (.tup []), []⟩, ⟨36, (.tup []), []⟩, ⟨37, (pB false), []⟩, ⟨38, (pB false), []⟩, ⟨39, (.tup []), []⟩, ⟨40, (.tup []), []⟩, ⟨41, (.tup []), []⟩, ⟨42, (pB false), []⟩, ⟨4, (pB false), []⟩] (by kernel_rfl) (by kernel_rfl) ?_ ?_
    ·
     refine .cons (fun E A => OpStep.plain rfl (Step.load_box_agg (n := 5) (qs := [cI l.f0, cI l.f1, cI l.f2, cI l.f3, cI l.f4]) (t := 5) rfl rfl (by exact lt_ok rfl) (by kernel_rfl) (A.g 2 rfl) (by exact A.box rfl) rfl rfl)) ?_
     refine .cons (fun E A => OpStep.plain rfl (Step.tb 6 (limOk l) hb1 (Step.cd (xs := [.tmp 5]) (ps := [(.agg [cI l.f0, cI l.f1, cI l.f2, cI l.f3, cI l.f4])]) (g := .func 93) false 6 (evs_cons (A.g 5 rfl) (rfl)) (.cons (.agg (.cons (.d _) (.cons (.d _) (.cons (.d _) (.cons (.d _) (.cons (.d _) .nil)))))) .nil) (ok_spec_LimitsOk l) (At.freshRows A rfl)))) ?_
     refine .cons (fun E A => A.mv 6 7) ?_
     refine .cons (fun E A => A.y 7 (Step.fa (off := 0) (n := 1) (one := true) 0 8 (A.g 3 rfl))) ?_
     refine .cons (fun E A => A.y 7 (Step.load_box (c := cI q.f0) (t := 9) rfl rfl (by exact lt_ok rfl) (by kernel_rfl) (A.g 8 rfl) (by exact A.box rfl) rfl)) ?_
     refine .cons (fun E A => A.y 7 (Step.tb 10 (decide (0 ≤ q.f0 ∧ q.f0 ≤ 1152921504606846975)) hb2 (Step.cd (xs := [.tmp 9]) (ps := [(pI q.f0)]) (g := .func 94) false 10 (evs_cons (A.g 9 rfl) (rfl)) (.cons (.one (.d _)) .nil) (ok_spec_l01Num q.f0) (At.freshRows A rfl)))) ?_
     refine .cons (fun E A => OpStep.plain rfl (Step.pick (b := true) (p := (pB true)) (t := 11) rfl rfl (by exact lt_ok rfl) (A.g 7 rfl) (A.g 10 rfl))) ?_
     refine .cons (fun E A => A.mv 11 12) ?_
     refine .cons (fun E A => A.y 12 (Step.fa (off := 1) (n := 1) (one := true) 0 13 (A.g 3 rfl))) ?_
     refine .cons (fun E A => A.y 12 (Step.load_box (c := cI q.f1) (t := 14) rfl rfl (by exact lt_ok rfl) (by kernel_rfl) (A.g 13 rfl) (by exact A.box rfl) rfl)) ?_
     refine .cons (fun E A => A.y 12 (Step.tb 15 (decide (0 ≤ q.f1 ∧ q.f1 ≤ 1152921504606846975)) hb3 (Step.cd (xs := [.tmp 14]) (ps := [(pI q.f1)]) (g := .func 94) false 15 (evs_cons (A.g 14 rfl) (rfl)) (.cons (.one (.d _)) .nil) (ok_spec_l01Num q.f1) (At.freshRows A rfl)))) ?_
     refine .cons (fun E A => OpStep.plain rfl (Step.pick (b := true) (p := (pB false)) (t := 16) rfl rfl (by exact lt_ok rfl) (A.g 12 rfl) (A.g 15 rfl))) ?_
     refine .cons (fun E A => A.mv 16 17) ?_
     refine .cons (fun E A => A.of 17) ?_
     refine .cons (fun E A => A.of 17) ?_
     refine .cons (fun E A => A.of 17) ?_
     refine .cons (fun E A => OpStep.plain rfl (Step.pick (b := false) (p := (pB false)) (t := 21) rfl rfl (by exact lt_ok rfl) (A.g 17 rfl) rfl)) ?_
     refine .cons (fun E A => A.mv 21 22) ?_
     refine .cons (fun E A => A.of 22) ?_
     refine .cons (fun E A => A.of 22) ?_
     refine .cons (fun E A => A.of 22) ?_
     refine .cons (fun E A => A.of 22) ?_
     refine .cons (fun E A => A.of 22) ?_
     refine .cons (fun E A => OpStep.plain rfl (Step.pick (b := false) (p := (pB false)) (t := 28) rfl rfl (by exact lt_ok rfl) (A.g 22 rfl) rfl)) ?_
     refine .cons (fun E A => A.mv 28 29) ?_
     refine .cons (fun E A => A.of 29) ?_
     refine .cons (fun E A => A.of 29) ?_
     refine .cons (fun E A => A.of 29) ?_
     refine .cons (fun E A => A.of 29) ?_
     refine .cons (fun E A => A.of 29) ?_
     refine .cons (fun E A => A.of 29) ?_
     refine .cons (fun E A => A.of 29) ?_
     refine .cons (fun E A => OpStep.plain rfl (Step.pick (b := false) (p := (pB false)) (t := 37) rfl rfl (by exact lt_ok rfl) (A.g 29 rfl) rfl)) ?_
     refine .cons (fun E A => A.mv 37 38) ?_
     refine .cons (fun E A => A.of 38) ?_
     refine .cons (fun E A => A.of 38) ?_
     refine .cons (fun E A => A.of 38) ?_
     refine .cons (fun E A => OpStep.plain rfl (Step.pick (b := false) (p := (pB false)) (t := 42) rfl rfl (by exact lt_ok rfl) (A.g 38 rfl) rfl)) ?_
     refine .cons (fun E A => A.as 42 4) ?_
     exact .nil _ _
    refine TL.nil ?_
    refine T.ret ?_
    refine ⟨[(false, [.d (.bool false)])], (.cons rfl .nil), rfl, [], (RetC.rd' ?_ .nil)⟩ <;> (first | rfl | (congr 1; symm; simp only [qcOk, hashes, List.all_cons, List.all_nil, *, Bool.and_true, Bool.true_and, Bool.and_false, Bool.false_and, decide_true, decide_false, and_true, true_and, and_self, and_false, false_and, Bool.and_self, not_true, not_false, Bool.not_true, Bool.not_false, ge_iff_le, gt_iff_lt, if_true, if_false, Bool.false_eq_true, ite_true, ite_false, reduceIte]; done) | (congr 1; symm; simp_all [qcOk, hashes, List.all_cons, List.all_nil]; done) | (congr 1; symm; simp_all [qcOk, hashes, List.all_cons, List.all_nil]; omega))
  ·
   refine T.draw [⟨5, (.agg [cI l.f0, cI l.f1, cI l.f2, cI l.f3, cI l.f4]), []⟩, ⟨6, (pB true), []⟩, ⟨7, (pB true), []⟩, ⟨8, (.one (.ptr 3 0)), []⟩, ⟨9, (pI q.f0), []⟩, ⟨10, (pB false), []⟩, ⟨11, (pB false), []⟩, ⟨12, (pB false), []⟩, ⟨13, (.tup []), []⟩, ⟨14, (.tup []), []⟩, ⟨15, (.tup []), []⟩, ⟨16, (pB false), []⟩, ⟨17, (pB false), []⟩, ⟨18, (.tup []), []⟩, ⟨19, (.tup []), []⟩, ⟨20, (.tup []), []⟩, ⟨21, (pB false), []⟩, ⟨22, (pB false), []⟩, ⟨23, (.tup []), []⟩, ⟨24, (.tup []), []⟩, ⟨25, (.tup []), []⟩, ⟨26, (.tup []), []⟩, ⟨27, (.tup []), []⟩, ⟨28, (pB false), []⟩, ⟨29, (pB false), []⟩, ⟨30, (.tup []), []⟩, ⟨31, (.tup []), []⟩, ⟨32, (.tup []), []⟩, ⟨33, (.tup []), []⟩, ⟨34, (.tup []), []⟩, ⟨35, (.tup []), []⟩, ⟨36, (.tup []), []⟩, ⟨37, (pB false), []⟩, ⟨38, (pB false), []⟩, ⟨39, (.tup []), []⟩, ⟨40, (.tup []), []⟩, ⟨41, (.tup []), []⟩, ⟨42, (pB false), []⟩, ⟨4, (pB false), []⟩] (by kernel_rfl) (by kernel_rfl) ?_ ?_
   ·
    refine .cons (fun E A => OpStep.plain rfl (Step.load_box_agg (n := 5) (qs := [cI l.f0, cI l.f1, cI l.f2, cI l.f3, cI l.f4]) (t := 5) rfl rfl (by exact lt_ok rfl) (by kernel_rfl) (A.g 2 rfl) (by exact A.box rfl) rfl rfl)) ?_
    refine .cons (fun E A => OpStep.plain rfl (Step.tb 6 (limOk l) hb1 (Step.cd (xs := [.tmp 5]) (ps := [(.agg [cI l.f0, cI l.f1, cI l.f2, cI l.f3, cI l.f4])]) (g := .func 93) false 6 (evs_cons (A.g 5 rfl) (rfl)) (.cons (.agg (.cons (.d _) (.cons (.d _) (.cons (.d _) (.cons (.d _) (.cons (.d _) .nil)))))) .nil) (ok_spec_LimitsOk l) (At.freshRows A rfl)))) ?_
    refine .cons (fun E A => A.mv 6 7) ?_
    refine .cons (fun E A => A.y 7 (Step.fa (off := 0) (n := 1) (one := true) 0 8 (A.g 3 rfl))) ?_
    refine .cons (fun E A => A.y 7 (Step.load_box (c := cI q.f0) (t := 9) rfl rfl (by exact lt_ok rfl) (by kernel_rfl) (A.g 8 rfl) (by exact A.box rfl) rfl)) ?_
    refine .cons (fun E A => A.y 7 (Step.tb 10 (decide (0 ≤ q.f0 ∧ q.f0 ≤ 1152921504606846975)) hb2 (Step.cd (xs := [.tmp 9]) (ps := [(pI q.f0)]) (g := .func 94) false 10 (evs_cons (A.g 9 rfl) (rfl)) (.cons (.one (.d _)) .nil) (ok_spec_l01Num q.f0) (At.freshRows A rfl)))) ?_
    refine .cons (fun E A => OpStep.plain rfl (Step.pick (b := true) (p := (pB false)) (t := 11) rfl rfl (by exact lt_ok rfl) (A.g 7 rfl) (A.g 10 rfl))) ?_
    refine .cons (fun E A => A.mv 11 12) ?_
    refine .cons (fun E A => A.of 12) ?_
    refine .cons (fun E A => A.of 12) ?_
    refine .cons (fun E A => A.of 12) ?_
    refine .cons (fun E A => OpStep.plain rfl (Step.pick (b := false) (p := (pB false)) (t := 16) rfl rfl (by exact lt_ok rfl) (A.g 12 rfl) rfl)) ?_
    refine .cons (fun E A => A.mv 16 17) ?_
    refine .cons (fun E A => A.of 17) ?_
    refine .cons (fun E A => A.of 17) ?_
    refine .cons (fun E A => A.of 17) ?_
    refine .cons (fun E A => OpStep.plain rfl (Step.pick (b := false) (p := (pB false)) (t := 21) rfl rfl (by exact lt_ok rfl) (A.g 17 rfl) rfl)) ?_
    refine .cons (fun E A => A.mv 21 22) ?_
    refine .cons (fun E A => A.of 22) ?_
    refine .cons (fun E A => A.of 22) ?_
    refine .cons (fun E A => A.of 22) ?_
    refine .cons (fun E A => A.of 22) ?_
    refine .cons (fun E A => A.of 22) ?_
    refine .cons (fun E A => OpStep.plain rfl (Step.pick (b := false) (p := (pB false)) (t := 28) rfl rfl (by exact lt_ok rfl) (A.g 22 rfl) rfl)) ?_
    refine .cons (fun E A => A.mv 28 29) ?_
    refine .cons (fun E A => A.of 29) ?_
    refine .cons (fun E A => A.of 29) ?_
    refine .cons (fun E A => A.of 29) ?_
    refine .cons (fun E A => A.of 29) ?_
    refine .cons (fun E A => A.of 29) ?_
    refine .cons (fun E A => A.of 29) ?_
    refine .cons (fun E A => A.of 29) ?_
    refine .cons (fun E A => OpStep.plain rfl (Step.pick (b := false) (p := (pB false)) (t := 37) rfl rfl (by exact lt_ok rfl) (A.g 29 rfl) rfl)) ?_
    refine .cons (fun E A => A.mv 37 38) ?_
    refine .cons (fun E A => A.of 38) ?_
    refine .cons (fun E A => A.of 38) ?_
    refine .cons (fun E A => A.of 38) ?_
    refine .cons (fun E A => OpStep.plain rfl (Step.pick (b := false) (p := (pB false)) (t := 42) rfl rfl (by exact lt_ok rfl) (A.g 38 rfl) rfl)) ?_
    refine .cons (fun E A => A.as 42 4) ?_
    exact .nil _ _
   refine TL.nil ?_
   refine T.ret ?_
   refine ⟨[(false, [.d (.bool false)])], (.cons rfl .nil), rfl, [], (RetC.rd' ?_ .nil)⟩ <;> (first | rfl | (congr 1; symm; simp only [qcOk, hashes, List.all_cons, List.all_nil, *, Bool.and_true, Bool.true_and, Bool.and_false, Bool.false_and, decide_true, decide_false, and_true, true_and, and_self, and_false, false_and, Bool.and_self, not_true, not_false, Bool.not_true, Bool.not_false, ge_iff_le, gt_iff_lt, if_true, if_false, Bool.false_eq_true, ite_true, ite_false, reduceIte]; done) | (congr 1; symm; simp_all [qcOk, hashes, List.all_cons, List.all_nil]; done) | (congr 1; symm; simp_all [qcOk, hashes, List.all_cons, List.all_nil]; omega))
 ·
  refine T.draw [⟨5, (.agg [cI l.f0, cI l.f1, cI l.f2, cI l.f3, cI l.f4]), []⟩, ⟨6, (pB false), []⟩, ⟨7, (pB false), []⟩, ⟨8, (.tup []), []⟩, ⟨9, (.tup []), []⟩, ⟨10, (.tup []), []⟩, ⟨11, (pB false), []⟩, ⟨12, (pB false), []⟩, ⟨13, (.tup []), []⟩, ⟨14, (.tup []), []⟩, ⟨15, (.tup []), []⟩, ⟨16, (pB false), []⟩, ⟨17, (pB false), []⟩, ⟨18, (.tup []), []⟩, ⟨19, (.tup []), []⟩, ⟨20, (.tup []), []⟩, ⟨21, (pB false), []⟩, ⟨22, (pB false), []⟩, ⟨23, (.tup []), []⟩, ⟨24, (.tup []), []⟩, ⟨25, (.tup []), []⟩, ⟨26, (.tup []), []⟩, ⟨27, (.tup []), []⟩, ⟨28, (pB false), []⟩, ⟨29, (pB false), []⟩, ⟨30, (.tup []), []⟩, ⟨31, (.tup []), []⟩, ⟨32, (.tup []), []⟩, ⟨33, (.tup []), []⟩, ⟨34, (.tup []), []⟩, ⟨35, (.tup []), []⟩, ⟨36, (.tup []), []⟩, ⟨37, (pB false), []⟩, ⟨38, (pB false), []⟩, ⟨39, (.tup []), []⟩, ⟨40, (.tup []), []⟩, ⟨41, (.tup []), []⟩, ⟨42, (pB false), []⟩, ⟨4, (pB false), []⟩] (by kernel_rfl) (by kernel_rfl) ?_ ?_
  ·
   refine .cons (fun E A => OpStep.plain rfl (Step.load_box_agg (n := 5) (qs := [cI l.f0, cI l.f1, cI l.f2, cI l.f3, cI l.f4]) (t := 5) rfl rfl (by exact lt_ok rfl) (by kernel_rfl) (A.g 2 rfl) (by exact A.box rfl) rfl rfl)) ?_
   refine .cons (fun E A => OpStep.plain rfl (Step.tb 6 (limOk l) hb1 (Step.cd (xs := [.tmp 5]) (ps := [(.agg [cI l.f0, cI l.f1, cI l.f2, cI l.f3, cI l.f4])]) (g := .func 93) false 6 (evs_cons (A.g 5 rfl) (rfl)) (.cons (.agg (.cons (.d _) (.cons (.d _) (.cons (.d _) (.cons (.d _) (.cons (.d _) .nil)))))) .nil) (ok_spec_LimitsOk l) (At.freshRows A rfl)))) ?_
   refine .cons (fun E A => A.mv 6 7) ?_
   refine .cons (fun E A => A.of 7) ?_
   refine .cons (fun E A => A.of 7) ?_
   refine .cons (fun E A => A.of 7) ?_
   refine .cons (fun E A => OpStep.plain rfl (Step.pick (b := false) (p := (pB false)) (t := 11) rfl rfl (by exact lt_ok rfl) (A.g 7 rfl) rfl)) ?_
   refine .cons (fun E A => A.mv 11 12) ?_
   refine .cons (fun E A => A.of 12) ?_
   refine .cons (fun E A => A.of 12) ?_
   refine .cons (fun E A => A.of 12) ?_
   refine .cons (fun E A => OpStep.plain rfl (Step.pick (b := false) (p := (pB false)) (t := 16) rfl rfl (by exact lt_ok rfl) (A.g 12 rfl) rfl)) ?_
   refine .cons (fun E A => A.mv 16 17) ?_
   refine .cons (fun E A => A.of 17) ?_
   refine .cons (fun E A => A.of 17) ?_
   refine .cons (fun E A => A.of 17) ?_
   refine .cons (fun E A => OpStep.plain rfl (Step.pick (b := false) (p := (pB false)) (t := 21) rfl rfl (by exact lt_ok rfl) (A.g 17 rfl) rfl)) ?_
   refine .cons (fun E A => A.mv 21 22) ?_
   refine .cons (fun E A => A.of 22) ?_
   refine .cons (fun E A => A.of 22) ?_
   refine .cons (fun E A => A.of 22) ?_
   refine .cons (fun E A => A.of 22) ?_
   refine .cons (fun E A => A.of 22) ?_
   refine .cons (fun E A => OpStep.plain rfl (Step.pick (b := false) (p := (pB false)) (t := 28) rfl rfl (by exact lt_ok rfl) (A.g 22 rfl) rfl)) ?_
   refine .cons (fun E A => A.mv 28 29) ?_
   refine .cons (fun E A => A.of 29) ?_
   refine .cons (fun E A => A.of 29) ?_
   refine .cons (fun E A => A.of 29) ?_
   refine .cons (fun E A => A.of 29) ?_
   refine .cons (fun E A => A.of 29) ?_
   refine .cons (fun E A => A.of 29) ?_
   refine .cons (fun E A => A.of 29) ?_
   refine .cons (fun E A => OpStep.plain rfl (Step.pick (b := false) (p := (pB false)) (t := 37) rfl rfl (by exact lt_ok rfl) (A.g 29 rfl) rfl)) ?_
   refine .cons (fun E A => A.mv 37 38) ?_
   refine .cons (fun E A => A.of 38) ?_
   refine .cons (fun E A => A.of 38) ?_
   refine .cons (fun E A => A.of 38) ?_
   refine .cons (fun E A => OpStep.plain rfl (Step.pick (b := false) (p := (pB false)) (t := 42) rfl rfl (by exact lt_ok rfl) (A.g 38 rfl) rfl)) ?_
   refine .cons (fun E A => A.as 42 4) ?_
   exact .nil _ _
  refine TL.nil ?_
  refine T.ret ?_
  refine ⟨[(false, [.d (.bool false)])], (.cons rfl .nil), rfl, [], (RetC.rd' ?_ .nil)⟩ <;> (first | rfl | (congr 1; symm; simp only [qcOk, hashes, List.all_cons, List.all_nil, *, Bool.and_true, Bool.true_and, Bool.and_false, Bool.false_and, decide_true, decide_false, and_true, true_and, and_self, and_false, false_and, Bool.and_self, not_true, not_false, Bool.not_true, Bool.not_false, ge_iff_le, gt_iff_lt, if_true, if_false, Bool.false_eq_true, ite_true, ite_false, reduceIte]; done) | (congr 1; symm; simp_all [qcOk, hashes, List.all_cons, List.all_nil]; done) | (congr 1; symm; simp_all [qcOk, hashes, List.all_cons, List.all_nil]; omega))
theorem ok_spec_l13Fits (h : SHead) (h0_ : h.ok) : RO Try.prog 96 [.agg h.cells] [(false, [.rd (.bool (headFits h))])] := by
 refine RO.intro Try.func96 rfl 26 rfl (le_ok rfl) fun w Z => ?_
 obtain ⟨o0, o1, o2, o3, o4, o5, o6, o7, o8, o9⟩ := h0_
 refine T.seq ?_
 refine T.region ?_
 refine TL.c (Step.box (p := (.agg [cI h.f0, cI h.f1, cI h.f2, cS h.f3, cS h.f4, cI h.f5.f0, cI h.f5.f1, cS h.f5.f2, cS h.f5.f3, .d (.bss h.f5.f4)])) (ps := [cI h.f0, cI h.f1, cI h.f2, cS h.f3, cS h.f4, cI h.f5.f0, cI h.f5.f1, cS h.f5.f2, cS h.f5.f3, .d (.bss h.f5.f4)]) rfl rfl (lt_ok rfl) rfl rfl rfl rfl rfl) ?_
 refine TL.as (pB false) ?_
 refine TL.nil ?_
 refine T.seq ?_
 refine T.region ?_
 refine TL.c (Step.fieldAddr (q := 0) (off := 5) (n := 5) (one := false) rfl rfl (lt_ok rfl) (by kernel_rfl) (Nat.succ_ne_zero _) rfl) ?_
 refine TL.c (Step.fieldAddr (q := 5) (off := 0) (n := 1) (one := true) rfl rfl (lt_ok rfl) (by kernel_rfl) (Nat.succ_ne_zero _) rfl) ?_
 refine TL.c (Step.load_box (c := cI h.f5.f0) rfl rfl (lt_ok rfl) (by kernel_rfl) rfl rfl rfl) ?_
 refine TL.c (Step.fieldAddr (q := 0) (off := 0) (n := 1) (one := true) rfl rfl (lt_ok rfl) (by kernel_rfl) (Nat.succ_ne_zero _) rfl) ?_
 refine TL.c (Step.load_box (c := cI h.f0) rfl rfl (lt_ok rfl) (by kernel_rfl) rfl rfl rfl) ?_
 refine TL.c (Step.bin rfl rfl (lt_ok rfl) rfl rfl (Bin.lss (k := .i64) (a := h.f5.f0) (b := h.f0))) ?_
 refine TL.mv (pB (decide (h.f5.f0 < h.f0))) ?_
 rcases Bool.eq_false_or_eq_true (decide (h.f5.f0 < h.f0)) with hb1 | hb1
 ·
  refine TL.known 9 hb1 rfl ?_
  refine TL.gy 9 (Step.fieldAddr (q := 0) (off := 5) (n := 5) (one := false) rfl rfl (lt_ok rfl) (by kernel_rfl) (Nat.succ_ne_zero _) rfl) ?_
  refine TL.gy 9 (Step.fieldAddr (q := 5) (off := 1) (n := 1) (one := true) rfl rfl (lt_ok rfl) (by kernel_rfl) (Nat.succ_ne_zero _) rfl) ?_
  refine TL.gy 9 (Step.load_box (c := cI h.f5.f1) rfl rfl (lt_ok rfl) (by kernel_rfl) rfl rfl rfl) ?_
  refine TL.gy 9 (Step.fieldAddr (q := 0) (off := 1) (n := 1) (one := true) rfl rfl (lt_ok rfl) (by kernel_rfl) (Nat.succ_ne_zero _) rfl) ?_
  refine TL.gy 9 (Step.load_box (c := cI h.f1) rfl rfl (lt_ok rfl) (by kernel_rfl) rfl rfl rfl) ?_
  refine TL.gy 9 (Step.bin (r := .int .i64 (IntKind.i64.wrap (h.f1 - 1))) rfl rfl (lt_ok rfl) rfl rfl (Bin.sub (a := h.f1) (b := 1) (rfl))) ?_
  refine TL.gy 9 (Step.bin rfl rfl (lt_ok rfl) rfl rfl (Bin.eql (k := .i64) (a := h.f5.f1) (b := (IntKind.i64.wrap (h.f1 - 1))))) ?_
  refine TL.pk true (pB (decide (h.f5.f1 = (IntKind.i64.wrap (h.f1 - 1))))) ?_
  refine TL.mv (pB (decide (h.f5.f1 = (IntKind.i64.wrap (h.f1 - 1))))) ?_
  rcases Bool.eq_false_or_eq_true (decide (h.f5.f1 = (IntKind.i64.wrap (h.f1 - 1)))) with hb2 | hb2
  ·
   refine TL.known 18 hb2 rfl ?_
   refine TL.gy 18 (Step.fieldAddr (q := 0) (off := 5) (n := 5) (one := false) rfl rfl (lt_ok rfl) (by kernel_rfl) (Nat.succ_ne_zero _) rfl) ?_
   refine TL.gy 18 (Step.fieldAddr (q := 5) (off := 2) (n := 1) (one := true) rfl rfl (lt_ok rfl) (by kernel_rfl) (Nat.succ_ne_zero _) rfl) ?_
   refine TL.gy 18 (Step.load_box (c := cS h.f5.f2) rfl rfl (lt_ok rfl) (by kernel_rfl) rfl rfl rfl) ?_
   refine TL.gy 18 (Step.fieldAddr (q := 0) (off := 3) (n := 1) (one := true) rfl rfl (lt_ok rfl) (by kernel_rfl) (Nat.succ_ne_zero _) rfl) ?_
   refine TL.gy 18 (Step.load_box (c := cS h.f3) rfl rfl (lt_ok rfl) (by kernel_rfl) rfl rfl rfl) ?_
   refine TL.gy 18 (Step.cl (xs := [.tmp 21, .tmp 23]) (ps := [(pS h.f5.f2), (pS h.f3)]) (g := .func 63) false (.cons (.one (.d _)) (.cons (.one (.d _)) .nil)) (ok_spec_SameBytes h.f5.f2 h.f3 (by first | assumption | omega) (by first | assumption | omega))) ?_
   refine TL.pk true (pB (decide (h.f5.f2 = h.f3))) ?_
   refine TL.as (pB (decide (h.f5.f2 = h.f3))) ?_
   refine TL.nil ?_
   refine T.ret ?_
   refine ⟨[(false, [.d (.bool (decide (h.f5.f2 = h.f3)))])], (.cons rfl .nil), rfl, [], (RetC.rd' ?_ .nil)⟩ <;> (first | rfl | (congr 1; symm; simp only [headFits, *, Bool.and_true, Bool.true_and, Bool.and_false, Bool.false_and, decide_true, decide_false, and_true, true_and, and_self, and_false, false_and, Bool.and_self, not_true, not_false, Bool.not_true, Bool.not_false, ge_iff_le, gt_iff_lt, if_true, if_false, Bool.false_eq_true, ite_true, ite_false, reduceIte]; done) | (congr 1; symm; simp_all [headFits]; done) | (congr 1; symm; simp_all [headFits]; omega))
  ·
   refine TL.known 18 hb2 rfl ?_
   refine TL.gf 18 ?_
   refine TL.gf 18 ?_
   refine TL.gf 18 ?_
   refine TL.gf 18 ?_
   refine TL.gf 18 ?_
   refine TL.gf 18 ?_
   refine TL.pk false (pB false) ?_
   refine TL.as (pB false) ?_
   refine TL.nil ?_
   refine T.ret ?_
   refine ⟨[(false, [.d (.bool false)])], (.cons rfl .nil), rfl, [], (RetC.rd' ?_ .nil)⟩ <;> (first | rfl | (congr 1; symm; simp only [headFits, *, Bool.and_true, Bool.true_and, Bool.and_false, Bool.false_and, decide_true, decide_false, and_true, true_and, and_self, and_false, false_and, Bool.and_self, not_true, not_false, Bool.not_true, Bool.not_false, ge_iff_le, gt_iff_lt, if_true, if_false, Bool.false_eq_true, ite_true, ite_false, reduceIte]; done) | (congr 1; symm; simp_all [headFits]; done) | (congr 1; symm; simp_all [headFits]; omega))
 ·
  refine TL.known 9 hb1 rfl ?_
  refine TL.gf 9 ?_
  refine TL.gf 9 ?_
  refine TL.gf 9 ?_
  refine TL.gf 9 ?_
  refine TL.gf 9 ?_
  refine TL.gf 9 ?_
  refine TL.gf 9 ?_
  refine TL.pk false (pB false) ?_
  refine TL.mv (pB false) ?_
  refine TL.gf 18 ?_
  refine TL.gf 18 ?_
  refine TL.gf 18 ?_
  refine TL.gf 18 ?_
  refine TL.gf 18 ?_
  refine TL.gf 18 ?_
  refine TL.pk false (pB false) ?_
  refine TL.as (pB false) ?_
  refine TL.nil ?_
  refine T.ret ?_
  refine ⟨[(false, [.d (.bool false)])], (.cons rfl .nil), rfl, [], (RetC.rd' ?_ .nil)⟩ <;> (first | rfl | (congr 1; symm; simp only [headFits, *, Bool.and_true, Bool.true_and, Bool.and_false, Bool.false_and, decide_true, decide_false, and_true, true_and, and_self, and_false, false_and, Bool.and_self, not_true, not_false, Bool.not_true, Bool.not_false, ge_iff_le, gt_iff_lt, if_true, if_false, Bool.false_eq_true, ite_true, ite_false, reduceIte]; done) | (congr 1; symm; simp_all [headFits]; done) | (congr 1; symm; simp_all [headFits]; omega))
theorem ok_spec_HeadOk (l : SLimits) (h : SHead) (h0_ : h.ok) (h1_ : h.sm) : RO Try.prog 77 [.agg l.cells, .agg h.cells] [(false, [.rd (.bool (headOk l h))])] := by
 refine RO.intro Try.func77 rfl 45 rfl (le_ok rfl) fun w Z => ?_
 have hok_ := h0_
 have hsm_ := h1_
 obtain ⟨o0, o1, o2, o3, o4, o5⟩ := h0_
 obtain ⟨s0, s1, s2⟩ := h1_
 refine T.seq ?_
 refine T.region ?_
 refine TL.c (Step.box (p := (.agg [cI l.f0, cI l.f1, cI l.f2, cI l.f3, cI l.f4])) (ps := [cI l.f0, cI l.f1, cI l.f2, cI l.f3, cI l.f4]) rfl rfl (lt_ok rfl) rfl rfl rfl rfl rfl) ?_
 refine TL.c (Step.box (p := (.agg [cI h.f0, cI h.f1, cI h.f2, cS h.f3, cS h.f4, cI h.f5.f0, cI h.f5.f1, cS h.f5.f2, cS h.f5.f3, .d (.bss h.f5.f4)])) (ps := [cI h.f0, cI h.f1, cI h.f2, cS h.f3, cS h.f4, cI h.f5.f0, cI h.f5.f1, cS h.f5.f2, cS h.f5.f3, .d (.bss h.f5.f4)]) rfl rfl (lt_ok rfl) rfl rfl rfl rfl rfl) ?_
 refine TL.as (pB false) ?_
 refine TL.nil ?_
 refine T.seq ?_
 refine T.region ?_
 refine TL.c (Step.load_box_agg (n := 5) (qs := [cI l.f0, cI l.f1, cI l.f2, cI l.f3, cI l.f4]) rfl rfl (lt_ok rfl) (by kernel_rfl) rfl rfl rfl rfl) ?_
 refine TL.c (Step.cl (xs := [.tmp 5]) (ps := [(.agg [cI l.f0, cI l.f1, cI l.f2, cI l.f3, cI l.f4])]) (g := .func 93) false (.cons (.agg (.cons (.d _) (.cons (.d _) (.cons (.d _) (.cons (.d _) (.cons (.d _) .nil)))))) .nil) (ok_spec_LimitsOk l)) ?_
 refine TL.mv (pB (limOk l)) ?_
 rcases Bool.eq_false_or_eq_true (limOk l) with hb1 | hb1
 ·
  refine TL.known 7 hb1 rfl ?_
  refine TL.gy 7 (Step.fieldAddr (q := 0) (off := 0) (n := 1) (one := true) rfl rfl (lt_ok rfl) (by kernel_rfl) (Nat.succ_ne_zero _) rfl) ?_
  refine TL.gy 7 (Step.load_box (c := cI h.f0) rfl rfl (lt_ok rfl) (by kernel_rfl) rfl rfl rfl) ?_
  refine TL.gy 7 (Step.cl (xs := [.tmp 9]) (ps := [(pI h.f0)]) (g := .func 94) false (.cons (.one (.d _)) .nil) (ok_spec_l01Num h.f0)) ?_
  refine TL.pk true (pB (decide (0 ≤ h.f0 ∧ h.f0 ≤ 1152921504606846975))) ?_
  refine TL.mv (pB (decide (0 ≤ h.f0 ∧ h.f0 ≤ 1152921504606846975))) ?_
  rcases Bool.eq_false_or_eq_true (decide (0 ≤ h.f0 ∧ h.f0 ≤ 1152921504606846975)) with hb2 | hb2
  ·
   refine TL.known 12 hb2 rfl ?_
   refine TL.gy 12 (Step.fieldAddr (q := 0) (off := 1) (n := 1) (one := true) rfl rfl (lt_ok rfl) (by kernel_rfl) (Nat.succ_ne_zero _) rfl) ?_
   refine TL.gy 12 (Step.load_box (c := cI h.f1) rfl rfl (lt_ok rfl) (by kernel_rfl) rfl rfl rfl) ?_
   refine TL.gy 12 (Step.cl (xs := [.tmp 14, .const (.int .i64 1), .const (.int .i64 1152921504606846975)]) (ps := [(pI h.f1), (pI 1), (pI 1152921504606846975)]) (g := .func 59) false (.cons (.one (.d _)) (.cons (.one (.d _)) (.cons (.one (.d _)) .nil))) (ok_spec_l01In h.f1 1 1152921504606846975)) ?_
   refine TL.pk true (pB (decide (1 ≤ h.f1 ∧ h.f1 ≤ 1152921504606846975))) ?_
   refine TL.mv (pB (decide (1 ≤ h.f1 ∧ h.f1 ≤ 1152921504606846975))) ?_
   rcases Bool.eq_false_or_eq_true (decide (1 ≤ h.f1 ∧ h.f1 ≤ 1152921504606846975)) with hb3 | hb3
   ·
    refine TL.known 17 hb3 rfl ?_
    refine TL.gy 17 (Step.fieldAddr (q := 0) (off := 2) (n := 1) (one := true) rfl rfl (lt_ok rfl) (by kernel_rfl) (Nat.succ_ne_zero _) rfl) ?_
    refine TL.gy 17 (Step.load_box (c := cI h.f2) rfl rfl (lt_ok rfl) (by kernel_rfl) rfl rfl rfl) ?_
    refine TL.gy 17 (Step.fieldAddr (q := 0) (off := 0) (n := 1) (one := true) rfl rfl (lt_ok rfl) (by kernel_rfl) (Nat.succ_ne_zero _) rfl) ?_
    refine TL.gy 17 (Step.load_box (c := cI l.f0) rfl rfl (lt_ok rfl) (by kernel_rfl) rfl rfl rfl) ?_
    refine TL.gy 17 (Step.bin (r := .int .i64 (IntKind.i64.wrap (l.f0 - 1))) rfl rfl (lt_ok rfl) rfl rfl (Bin.sub (a := l.f0) (b := 1) (rfl))) ?_
    refine TL.gy 17 (Step.cl (xs := [.tmp 19, .const (.int .i64 0), .tmp 22]) (ps := [(pI h.f2), (pI 0), (pI (IntKind.i64.wrap (l.f0 - 1)))]) (g := .func 59) false (.cons (.one (.d _)) (.cons (.one (.d _)) (.cons (.one (.d _)) .nil))) (ok_spec_l01In h.f2 0 (IntKind.i64.wrap (l.f0 - 1)))) ?_
    refine TL.pk true (pB (decide (0 ≤ h.f2 ∧ h.f2 ≤ (IntKind.i64.wrap (l.f0 - 1))))) ?_
    refine TL.mv (pB (decide (0 ≤ h.f2 ∧ h.f2 ≤ (IntKind.i64.wrap (l.f0 - 1))))) ?_
    rcases Bool.eq_false_or_eq_true (decide (0 ≤ h.f2 ∧ h.f2 ≤ (IntKind.i64.wrap (l.f0 - 1)))) with hb4 | hb4
    ·
     refine TL.known 25 hb4 rfl ?_
     refine TL.gy 25 (Step.fieldAddr (q := 0) (off := 3) (n := 1) (one := true) rfl rfl (lt_ok rfl) (by kernel_rfl) (Nat.succ_ne_zero _) rfl) ?_
     refine TL.gy 25 (Step.load_box (c := cS h.f3) rfl rfl (lt_ok rfl) (by kernel_rfl) rfl rfl rfl) ?_
     refine TL.gy 25 (Step.cl (xs := [.tmp 27]) (ps := [(pS h.f3)]) (g := .func 65) false (.cons (.one (.d _)) .nil) (ok_spec_l07Hash h.f3)) ?_
     refine TL.pk true (pB (decide ((h.f3.length : Int) = 32))) ?_
     refine TL.mv (pB (decide ((h.f3.length : Int) = 32))) ?_
     rcases Bool.eq_false_or_eq_true (decide ((h.f3.length : Int) = 32)) with hb5 | hb5
     ·
      refine TL.known 30 hb5 rfl ?_
      refine TL.gy 30 (Step.fieldAddr (q := 0) (off := 4) (n := 1) (one := true) rfl rfl (lt_ok rfl) (by kernel_rfl) (Nat.succ_ne_zero _) rfl) ?_
      refine TL.gy 30 (Step.load_box (c := cS h.f4) rfl rfl (lt_ok rfl) (by kernel_rfl) rfl rfl rfl) ?_
      refine TL.gy 30 (Step.cl (xs := [.tmp 32]) (ps := [(pS h.f4)]) (g := .func 65) false (.cons (.one (.d _)) .nil) (ok_spec_l07Hash h.f4)) ?_
      refine TL.pk true (pB (decide ((h.f4.length : Int) = 32))) ?_
      refine TL.mv (pB (decide ((h.f4.length : Int) = 32))) ?_
      rcases Bool.eq_false_or_eq_true (decide ((h.f4.length : Int) = 32)) with hb6 | hb6
      ·
       refine TL.known 35 hb6 rfl ?_
       refine TL.gy 35 (Step.load_box_agg (n := 5) (qs := [cI l.f0, cI l.f1, cI l.f2, cI l.f3, cI l.f4]) rfl rfl (lt_ok rfl) (by kernel_rfl) rfl rfl rfl rfl) ?_
       refine TL.gy 35 (Step.fieldAddr (q := 0) (off := 5) (n := 5) (one := false) rfl rfl (lt_ok rfl) (by kernel_rfl) (Nat.succ_ne_zero _) rfl) ?_
       refine TL.gy 35 (Step.load_box_agg (n := 5) (qs := [cI h.f5.f0, cI h.f5.f1, cS h.f5.f2, cS h.f5.f3, .d (.bss h.f5.f4)]) rfl rfl (lt_ok rfl) (by kernel_rfl) rfl rfl rfl rfl) ?_
       refine TL.gy 35 (Step.cl (xs := [.tmp 36, .tmp 38]) (ps := [(.agg [cI l.f0, cI l.f1, cI l.f2, cI l.f3, cI l.f4]), (.agg [cI h.f5.f0, cI h.f5.f1, cS h.f5.f2, cS h.f5.f3, .d (.bss h.f5.f4)])]) (g := .func 95) false (.cons (.agg (.cons (.d _) (.cons (.d _) (.cons (.d _) (.cons (.d _) (.cons (.d _) .nil)))))) (.cons (.agg (.cons (.d _) (.cons (.d _) (.cons (.d _) (.cons (.d _) (.cons (.d _) .nil)))))) .nil)) (ok_spec_QcOk l h.f5 (by first | assumption | exact qcOf_ok (l := l) h0_) (by first | assumption | exact qcOf_sm (l := l) h1_ h2_))) ?_
       refine TL.pk true (pB (qcOk l h.f5)) ?_
       refine TL.mv (pB (qcOk l h.f5)) ?_
       rcases Bool.eq_false_or_eq_true (qcOk l h.f5) with hb7 | hb7
       ·
        refine TL.known 41 hb7 rfl ?_
        refine TL.gy 41 (Step.load_box_agg (n := 10) (qs := [cI h.f0, cI h.f1, cI h.f2, cS h.f3, cS h.f4, cI h.f5.f0, cI h.f5.f1, cS h.f5.f2, cS h.f5.f3, .d (.bss h.f5.f4)]) rfl rfl (lt_ok rfl) (by kernel_rfl) rfl rfl rfl rfl) ?_
        refine TL.gy 41 (Step.cl (xs := [.tmp 42]) (ps := [(.agg [cI h.f0, cI h.f1, cI h.f2, cS h.f3, cS h.f4, cI h.f5.f0, cI h.f5.f1, cS h.f5.f2, cS h.f5.f3, .d (.bss h.f5.f4)])]) (g := .func 96) false (.cons (.agg (.cons (.d _) (.cons (.d _) (.cons (.d _) (.cons (.d _) (.cons (.d _) (.cons (.d _) (.cons (.d _) (.cons (.d _) (.cons (.d _) (.cons (.d _) .nil))))))))))) .nil) (ok_spec_l13Fits h (by first | assumption | exact rdHead_ok (l := l) (s := s) h0_))) ?_
        refine TL.pk true (pB (headFits h)) ?_
        refine TL.as (pB (headFits h)) ?_
        refine TL.nil ?_
        refine T.weaken (E' := { tm := [(4, (pB (headFits h)))], rows := [], boxes := [] }) (Env.le_mk ⟨by kernel_rfl, trivial⟩ trivial trivial) ?_
        refine T.ret ?_
        refine ⟨[(false, [.d (.bool (headFits h))])], (.cons rfl .nil), rfl, [], (RetC.rd' ?_ .nil)⟩ <;> (first | (congr 1; symm; unfold headOk; rw [qcOk_no (q := h.f5) (by assumption)]; simp only [Bool.false_and]; done) | first | rfl | (congr 1; symm; simp only [headOk, *, Bool.and_true, Bool.true_and, Bool.and_false, Bool.false_and, decide_true, decide_false, and_true, true_and, and_self, and_false, false_and, Bool.and_self, not_true, not_false, Bool.not_true, Bool.not_false, ge_iff_le, gt_iff_lt, if_true, if_false, Bool.false_eq_true, ite_true, ite_false, reduceIte]; done) | (congr 1; symm; simp_all [headOk]; done) | (congr 1; symm; simp_all [headOk]; omega))
       ·
        refine TL.known 41 hb7 rfl ?_
        refine TL.gf 41 ?_
        refine TL.gf 41 ?_
        refine TL.pk false (pB false) ?_
        refine TL.as (pB false) ?_
        refine TL.nil ?_
        refine T.weaken (E' := { tm := [(4, (pB false))], rows := [], boxes := [] }) (Env.le_mk ⟨by kernel_rfl, trivial⟩ trivial trivial) ?_
        refine T.ret ?_
        refine ⟨[(false, [.d (.bool false)])], (.cons rfl .nil), rfl, [], (RetC.rd' ?_ .nil)⟩ <;> (first | (congr 1; symm; unfold headOk; rw [qcOk_no (q := h.f5) (by assumption)]; simp only [Bool.false_and]; done) | first | rfl | (congr 1; symm; simp only [headOk, *, Bool.and_true, Bool.true_and, Bool.and_false, Bool.false_and, decide_true, decide_false, and_true, true_and, and_self, and_false, false_and, Bool.and_self, not_true, not_false, Bool.not_true, Bool.not_false, ge_iff_le, gt_iff_lt, if_true, if_false, Bool.false_eq_true, ite_true, ite_false, reduceIte]; done) | (congr 1; symm; simp_all [headOk]; done) | (congr 1; symm; simp_all [headOk]; omega))
      ·
       refine TL.known 35 hb6 rfl ?_
       refine TL.gf 35 ?_
       refine TL.gf 35 ?_
       refine TL.gf 35 ?_
       refine TL.gf 35 ?_
       refine TL.pk false (pB false) ?_
       refine TL.mv (pB false) ?_
       refine TL.gf 41 ?_
       refine TL.gf 41 ?_
       refine TL.pk false (pB false) ?_
       refine TL.as (pB false) ?_
       refine TL.nil ?_
       refine T.ret ?_
       refine ⟨[(false, [.d (.bool false)])], (.cons rfl .nil), rfl, [], (RetC.rd' ?_ .nil)⟩ <;> (first | (congr 1; symm; unfold headOk; rw [qcOk_no (q := h.f5) (by assumption)]; simp only [Bool.false_and]; done) | first | rfl | (congr 1; symm; simp only [headOk, *, Bool.and_true, Bool.true_and, Bool.and_false, Bool.false_and, decide_true, decide_false, and_true, true_and, and_self, and_false, false_and, Bool.and_self, not_true, not_false, Bool.not_true, Bool.not_false, ge_iff_le, gt_iff_lt, if_true, if_false, Bool.false_eq_true, ite_true, ite_false, reduceIte]; done) | (congr 1; symm; simp_all [headOk]; done) | (congr 1; symm; simp_all [headOk]; omega))
     ·
      refine TL.known 30 hb5 rfl ?_
      refine TL.gf 30 ?_
      refine TL.gf 30 ?_
      refine TL.gf 30 ?_
      refine TL.pk false (pB false) ?_
      refine TL.mv (pB false) ?_
      refine TL.gf 35 ?_
      refine TL.gf 35 ?_
      refine TL.gf 35 ?_
      refine TL.gf 35 ?_
      refine TL.pk false (pB false) ?_
      refine TL.mv (pB false) ?_
      refine TL.gf 41 ?_
      refine TL.gf 41 ?_
      refine TL.pk false (pB false) ?_
      refine TL.as (pB false) ?_
      refine TL.nil ?_
      refine T.ret ?_
      refine ⟨[(false, [.d (.bool false)])], (.cons rfl .nil), rfl, [], (RetC.rd' ?_ .nil)⟩ <;> (first | (congr 1; symm; unfold headOk; rw [qcOk_no (q := h.f5) (by assumption)]; simp only [Bool.false_and]; done) | first | rfl | (congr 1; symm; simp only [headOk, *, Bool.and_true, Bool.true_and, Bool.and_false, Bool.false_and, decide_true, decide_false, and_true, true_and, and_self, and_false, false_and, Bool.and_self, not_true, not_false, Bool.not_true, Bool.not_false, ge_iff_le, gt_iff_lt, if_true, if_false, Bool.false_eq_true, ite_true, ite_false, reduceIte]; done) | (congr 1; symm; simp_all [headOk]; done) | (congr 1; symm; simp_all [headOk]; omega))
    ·
     refine TL.known 25 hb4 rfl ?_
     refine TL.gf 25 ?_
     refine TL.gf 25 ?_
     refine TL.gf 25 ?_
     refine TL.pk false (pB false) ?_
     refine TL.mv (pB false) ?_
     refine TL.gf 30 ?_
     refine TL.gf 30 ?_
     refine TL.gf 30 ?_
     refine TL.pk false (pB false) ?_
     refine TL.mv (pB false) ?_
     refine TL.gf 35 ?_
     refine TL.gf 35 ?_
     refine TL.gf 35 ?_
     refine TL.gf 35 ?_
     refine TL.pk false (pB false) ?_
     refine TL.mv (pB false) ?_
     refine TL.gf 41 ?_
     refine TL.gf 41 ?_
     refine TL.pk false (pB false) ?_
     refine TL.as (pB false) ?_
     refine TL.nil ?_
     refine T.ret ?_
     refine ⟨[(false, [.d (.bool false)])], (.cons rfl .nil), rfl, [], (RetC.rd' ?_ .nil)⟩ <;> (first | (congr 1; symm; unfold headOk; rw [qcOk_no (q := h.f5) (by assumption)]; simp only [Bool.false_and]; done) | first | rfl | (congr 1; symm; simp only [headOk, *, Bool.and_true, Bool.true_and, Bool.and_false, Bool.false_and, decide_true, decide_false, and_true, true_and, and_self, and_false, false_and, Bool.and_self, not_true, not_false, Bool.not_true, Bool.not_false, ge_iff_le, gt_iff_lt, if_true, if_false, Bool.false_eq_true, ite_true, ite_false, reduceIte]; done) | (congr 1; symm; simp_all [headOk]; done) | (congr 1; symm; simp_all [headOk]; omega))
   ·
    refine TL.known 17 hb3 rfl ?_
    refine TL.gf 17 ?_
    refine TL.gf 17 ?_
    refine TL.gf 17 ?_
    refine TL.gf 17 ?_
    refine TL.gf 17 ?_
    refine TL.gf 17 ?_
    refine TL.pk false (pB false) ?_
    refine TL.mv (pB false) ?_
    refine TL.gf 25 ?_
    refine TL.gf 25 ?_
    refine TL.gf 25 ?_
    refine TL.pk false (pB false) ?_
    refine TL.mv (pB false) ?_
    refine TL.gf 30 ?_
    refine TL.gf 30 ?_
    refine TL.gf 30 ?_
    refine TL.pk false (pB false) ?_
    refine TL.mv (pB false) ?_
    refine TL.gf 35 ?_
    refine TL.gf 35 ?_
    refine TL.gf 35 ?_
    refine TL.gf 35 ?_
    refine TL.pk false (pB false) ?_
    refine TL.mv (pB false) ?_
    refine TL.gf 41 ?_
    refine TL.gf 41 ?_
    refine TL.pk false (pB false) ?_
    refine TL.as (pB false) ?_
    refine TL.nil ?_
    refine T.ret ?_
    refine ⟨[(false, [.d (.bool false)])], (.cons rfl .nil), rfl, [], (RetC.rd' ?_ .nil)⟩ <;> (first | (congr 1; symm; unfold headOk; rw [qcOk_no (q := h.f5) (by assumption)]; simp only [Bool.false_and]; done) | first | rfl | (congr 1; symm; simp only [headOk, *, Bool.and_true, Bool.true_and, Bool.and_false, Bool.false_and, decide_true, decide_false, and_true, true_and, and_self, and_false, false_and, Bool.and_self, not_true, not_false, Bool.not_true, Bool.not_false, ge_iff_le, gt_iff_lt, if_true, if_false, Bool.false_eq_true, ite_true, ite_false, reduceIte]; done) | (congr 1; symm; simp_all [headOk]; done) | (congr 1; symm; simp_all [headOk]; omega))
  ·
   refine TL.known 12 hb2 rfl ?_
   refine TL.gf 12 ?_
   refine TL.gf 12 ?_
   refine TL.gf 12 ?_
   refine TL.pk false (pB false) ?_
   refine TL.mv (pB false) ?_
   refine TL.gf 17 ?_
   refine TL.gf 17 ?_
   refine TL.gf 17 ?_
   refine TL.gf 17 ?_
   refine TL.gf 17 ?_
   refine TL.gf 17 ?_
   refine TL.pk false (pB false) ?_
   refine TL.mv (pB false) ?_
   refine TL.gf 25 ?_
   refine TL.gf 25 ?_
   refine TL.gf 25 ?_
   refine TL.pk false (pB false) ?_
   refine TL.mv (pB false) ?_
   refine TL.gf 30 ?_
   refine TL.gf 30 ?_
   refine TL.gf 30 ?_
   refine TL.pk false (pB false) ?_
   refine TL.mv (pB false) ?_
   refine TL.gf 35 ?_
   refine TL.gf 35 ?_
   refine TL.gf 35 ?_
   refine TL.gf 35 ?_
   refine TL.pk false (pB false) ?_
   refine TL.mv (pB false) ?_
   refine TL.gf 41 ?_
   refine TL.gf 41 ?_
   refine TL.pk false (pB false) ?_
   refine TL.as (pB false) ?_
   refine TL.nil ?_
   refine T.ret ?_
   refine ⟨[(false, [.d (.bool false)])], (.cons rfl .nil), rfl, [], (RetC.rd' ?_ .nil)⟩ <;> (first | (congr 1; symm; unfold headOk; rw [qcOk_no (q := h.f5) (by assumption)]; simp only [Bool.false_and]; done) | first | rfl | (congr 1; symm; simp only [headOk, *, Bool.and_true, Bool.true_and, Bool.and_false, Bool.false_and, decide_true, decide_false, and_true, true_and, and_self, and_false, false_and, Bool.and_self, not_true, not_false, Bool.not_true, Bool.not_false, ge_iff_le, gt_iff_lt, if_true, if_false, Bool.false_eq_true, ite_true, ite_false, reduceIte]; done) | (congr 1; symm; simp_all [headOk]; done) | (congr 1; symm; simp_all [headOk]; omega))
 ·
  refine TL.known 7 hb1 rfl ?_
  refine TL.gf 7 ?_
  refine TL.gf 7 ?_
  refine TL.gf 7 ?_
  refine TL.pk false (pB false) ?_
  refine TL.mv (pB false) ?_
  refine TL.gf 12 ?_
  refine TL.gf 12 ?_
  refine TL.gf 12 ?_
  refine TL.pk false (pB false) ?_
  refine TL.mv (pB false) ?_
  refine TL.gf 17 ?_
  refine TL.gf 17 ?_
  refine TL.gf 17 ?_
  refine TL.gf 17 ?_
  refine TL.gf 17 ?_
  refine TL.gf 17 ?_
  refine TL.pk false (pB false) ?_
  refine TL.mv (pB false) ?_
  refine TL.gf 25 ?_
  refine TL.gf 25 ?_
  refine TL.gf 25 ?_
  refine TL.pk false (pB false) ?_
  refine TL.mv (pB false) ?_
  refine TL.gf 30 ?_
  refine TL.gf 30 ?_
  refine TL.gf 30 ?_
  refine TL.pk false (pB false) ?_
  refine TL.mv (pB false) ?_
  refine TL.gf 35 ?_
  refine TL.gf 35 ?_
  refine TL.gf 35 ?_
  refine TL.gf 35 ?_
  refine TL.pk false (pB false) ?_
  refine TL.mv (pB false) ?_
  refine TL.gf 41 ?_
  refine TL.gf 41 ?_
  refine TL.pk false (pB false) ?_
  refine TL.as (pB false) ?_
  refine TL.nil ?_
  refine T.ret ?_
  refine ⟨[(false, [.d (.bool false)])], (.cons rfl .nil), rfl, [], (RetC.rd' ?_ .nil)⟩ <;> (first | (congr 1; symm; unfold headOk; rw [qcOk_no (q := h.f5) (by assumption)]; simp only [Bool.false_and]; done) | first | rfl | (congr 1; symm; simp only [headOk, *, Bool.and_true, Bool.true_and, Bool.and_false, Bool.false_and, decide_true, decide_false, and_true, true_and, and_self, and_false, false_and, Bool.and_self, not_true, not_false, Bool.not_true, Bool.not_false, ge_iff_le, gt_iff_lt, if_true, if_false, Bool.false_eq_true, ite_true, ite_false, reduceIte]; done) | (congr 1; symm; simp_all [headOk]; done) | (congr 1; symm; simp_all [headOk]; omega))
end Go.Proofs.Ytmdojlglemnijaa.Rf
