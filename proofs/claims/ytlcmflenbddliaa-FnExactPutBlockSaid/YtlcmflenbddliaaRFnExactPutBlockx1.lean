/- The functions that FnExactPutBlock calls, each held to what it answers. Printed by a program of this session; Lean checks it. -/
import Derived.Test.YtlcmflenbddliaaProg
import Derived.Test.YtlcmflenbddliaaRFnExactPutBlockx0
namespace Go.Proofs.Ytlcmflenbddliaa.Rf
open Go.RowKit
set_option linter.unusedVariables false
set_option linter.unnecessarySimpa false
set_option linter.unusedSimpArgs false
set_option maxRecDepth 100000
set_option maxHeartbeats 4000000
theorem ok_spec_ShaBlock (h : List Int) (b : List Int) (h0_ : U8s b) : RO Try.prog 149 [.one (.ints .i64 h), .one (.ints .u8 b)] [(false, [.own 3 (.ints .i64 (shaBlock h b))])] := by
 refine RO.intro Try.func149 rfl 254 rfl (le_ok rfl) fun w Z => ?_
 refine T.bnd 0 0 rfl rfl fun hb_0_0 => ?_
 simp only [D.size, List.length_map] at hb_0_0
 refine T.bnd 1 0 rfl rfl fun hb_1_0 => ?_
 simp only [D.size, List.length_map] at hb_1_0
 refine T.seq ?_
 refine T.region ?_
 refine TL.as (.one (.nil)) ?_
 refine TL.nil ?_
 refine T.seq ?_
 refine T.seq ?_
 refine T.region ?_
 refine TL.mv (.one (.d (.ints .i64 h))) ?_
 refine TL.c (Step.len (e := 3) (z := 1) (d := (.ints .i64 h)) rfl rfl (lt_ok rfl) (by kernel_rfl) rfl rfl) ?_
 refine TL.c (Step.bin rfl rfl (lt_ok rfl) rfl rfl (Bin.neq (k := .i64) (a := (h.length : Int)) (b := 8))) ?_
 refine TL.mv (pB (decide ((h.length : Int) ≠ 8))) ?_
 rcases Bool.eq_false_or_eq_true (decide ((h.length : Int) ≠ 8)) with hb1 | hb1
 ·
  refine TL.known 26 hb1 rfl ?_
  have hb1' := hb1
  replace hb1' := of_decide_eq_true hb1'
  refine TL.gf 26 ?_
  refine TL.gf 26 ?_
  refine TL.gf 26 ?_
  refine TL.pk true (pB true) ?_
  refine TL.nil ?_
  refine T.cond (b := true) rfl (fun h2_ => ?_) (fun h2_ => absurd h2_ (by simp))
  refine T.seq ?_
  refine T.region ?_
  refine TL.as (.one (.nil)) ?_
  refine TL.nil ?_
  refine T.ret ?_
  refine ⟨[(false, [.nil])], (.cons rfl .nil), rfl, [], (RetC.nilown' rfl ?_ (by first | exact trivial | exact D.wf_nil _) .nil)⟩ <;> (first | (rw [shaBlock_yes (h := h) (b := b) ⟨by omega, by omega, hwo_⟩, show i = 8 from by omega]; done) | (simp only [D.size]; first | (rw [shaBlock_no (fun h_ => by have := h_.1; have := h_.2.1; omega)]; rfl) | (rw [shaBlock_no (fun h_ => by have := h_.2.2; rw [words_no (i := i) (by omega) (by omega)] at this; cases this)]; rfl)))
 ·
  refine TL.known 26 hb1 rfl ?_
  have hb1' := hb1
  replace hb1' := of_decide_eq_false hb1'
  refine TL.gm 26 (pS b) ?_
  refine TL.gy 26 (Step.len (e := 5) (z := 1) (d := (.ints .u8 b)) rfl rfl (lt_ok rfl) (by kernel_rfl) rfl rfl) ?_
  refine TL.gy 26 (Step.bin rfl rfl (lt_ok rfl) rfl rfl (Bin.neq (k := .i64) (a := (b.length : Int)) (b := 64))) ?_
  refine TL.pk false (pB (decide ((b.length : Int) ≠ 64))) ?_
  refine TL.nil ?_
  refine T.cond (b := decide ((b.length : Int) ≠ 64)) rfl (fun h3 => ?_) (fun h3 => ?_)
  ·
   replace h3 := of_decide_eq_true h3
   refine T.seq ?_
   refine T.region ?_
   refine TL.as (.one (.nil)) ?_
   refine TL.nil ?_
   refine T.ret ?_
   refine ⟨[(false, [.nil])], (.cons rfl .nil), rfl, [], (RetC.nilown' rfl ?_ (by first | exact trivial | exact D.wf_nil _) .nil)⟩ <;> (first | (rw [shaBlock_yes (h := h) (b := b) ⟨by omega, by omega, hwo_⟩, show i = 8 from by omega]; done) | (simp only [D.size]; first | (rw [shaBlock_no (fun h_ => by have := h_.1; have := h_.2.1; omega)]; rfl) | (rw [shaBlock_no (fun h_ => by have := h_.2.2; rw [words_no (i := i) (by omega) (by omega)] at this; cases this)]; rfl)))
  ·
   replace h3 := of_decide_eq_false h3
   refine T.skip ?_
   refine T.seq ?_
   refine T.seq ?_
   refine T.region ?_
   refine TL.mv (.one (.d (.ints .i64 h))) ?_
   refine TL.c (Step.len (e := 3) (z := 1) (d := (.ints .i64 h)) rfl rfl (lt_ok rfl) (by kernel_rfl) rfl rfl) ?_
   refine TL.mv (pI 0) ?_
   refine TL.nil ?_
   refine T.block ?_
   refine T.loop (ι := Nat) (fun xx_ => { tm := [(0, (.one (.d (.ints .i64 h)))), (1, (pS b)), (31, (.one (.d (.ints .i64 h)))), (32, (pI (h.length : Int))), (33, (pI (xx_ : Int)))], rows := [], boxes := [] }) (fun xx_ => xx_ ≤ h.length ∧ wordsOk (h.take xx_) = true) (fun xx_ => h.length - xx_) 0 ?_ ?_ ?_
   · refine Env.le_mk ⟨rfl, rfl, rfl, rfl, ?_, trivial⟩ trivial trivial <;> (first | rfl | (simp; done) | (congr 3; omega))
   · (refine ⟨Nat.zero_le _, by rw [List.take_zero]; rfl⟩)
   ·
    intro i hx
    try dsimp only at hx ⊢
    obtain ⟨hx1, hx2⟩ := hx
    refine T.seq ?_
    refine T.region ?_
    refine TL.c (Step.bin rfl rfl (lt_ok rfl) rfl rfl (Bin.lss (k := .i64) (a := (i : Int)) (b := (h.length : Int)))) ?_
    refine TL.nil ?_
    refine T.seq ?_
    refine T.cond (b := decide ((i : Int) < (h.length : Int))) rfl (fun h4 => ?_) (fun h4 => ?_)
    ·
     replace h4 := of_decide_eq_true h4
     refine T.skip ?_
     refine T.seq ?_
     refine T.block ?_
     refine T.seq ?_
     refine T.region ?_
     refine TL.c (Step.index (e := 3) (z := 1) (i := (i : Int)) rfl rfl (lt_ok rfl) (by kernel_rfl) rfl rfl rfl (lt_ok rfl) rfl (by first | omega | (simp; omega) | (simp [w16_len, wN_len]; omega)) (by simp only [D.size]; first | omega | (simp; omega) | (simp [w16_len, wN_len]; omega))) ?_
     refine TL.c (Step.load (e := (.int .i64 (h.getD i 0))) rfl rfl (lt_ok rfl) (by kernel_rfl) rfl rfl) ?_
     refine TL.as (pI (h.getD i 0)) ?_
     refine TL.nil ?_
     refine T.seq ?_
     refine T.region ?_
     refine TL.mv (pI (h.getD i 0)) ?_
     refine TL.c (Step.cl (xs := [.tmp 37]) (ps := [(pI (h.getD i 0))]) (g := .func 186) false (.cons (.one (.d _)) .nil) (ok_spec_l04Word (h.getD i 0))) ?_
     refine TL.c (Step.not (b := (decide (0 ≤ (h.getD i 0) ∧ (h.getD i 0) ≤ 4294967295))) rfl rfl (lt_ok rfl) rfl) ?_
     refine TL.nil ?_
     refine T.cond (b := !(decide (0 ≤ (h.getD i 0) ∧ (h.getD i 0) ≤ 4294967295))) rfl (fun h5 => ?_) (fun h5 => ?_)
     ·
      replace h5 : (decide (0 ≤ (h.getD i 0) ∧ (h.getD i 0) ≤ 4294967295)) = false := by simpa only [Bool.not_eq_true', Bool.not_eq_false'] using h5
      replace h5 := of_decide_eq_false h5
      refine T.seq ?_
      refine T.region ?_
      refine TL.as (.one (.nil)) ?_
      refine TL.nil ?_
      refine T.ret ?_
      refine ⟨[(false, [.nil])], (.cons rfl .nil), rfl, [], (RetC.nilown' rfl ?_ (by first | exact trivial | exact D.wf_nil _) .nil)⟩ <;> (first | (rw [shaBlock_yes (h := h) (b := b) ⟨by omega, by omega, hwo_⟩, show i = 8 from by omega]; done) | (simp only [D.size]; first | (rw [shaBlock_no (fun h_ => by have := h_.1; have := h_.2.1; omega)]; rfl) | (rw [shaBlock_no (fun h_ => by have := h_.2.2; rw [words_no (i := i) (by omega) (by omega)] at this; cases this)]; rfl)))
     ·
      replace h5 : (decide (0 ≤ (h.getD i 0) ∧ (h.getD i 0) ≤ 4294967295)) = true := by simpa only [Bool.not_eq_true', Bool.not_eq_false'] using h5
      replace h5 := of_decide_eq_true h5
      refine T.skip ?_
      refine T.region ?_
      refine TL.c (Step.bin (r := .int .i64 ((i : Int) + 1)) rfl rfl (lt_ok rfl) rfl rfl (Bin.add (a := (i : Int)) (b := 1) (by first | exact wrap_ok (by first | omega | (simp; omega) | (simp [w16_len, wN_len]; omega)) (by first | omega | (simp; omega) | (simp [w16_len, wN_len]; omega)) | rfl))) ?_
      refine TL.mv (pI ((i : Int) + 1)) ?_
      refine TL.nil ?_
      refine ⟨i + 1, by (refine ⟨by omega, words_step (by omega) hx2 (by omega)⟩), by first | omega | (dsimp only; omega), Env.le_mk ⟨rfl, rfl, rfl, rfl, ?_, trivial⟩ trivial trivial⟩ <;> (first | rfl | (simp; done) | (congr 3; omega))
    ·
     replace h4 := of_decide_eq_false h4
     refine T.exit ?_
     refine T.seq ?_
     refine T.region ?_
     refine TL.c (Step.lit (e := 3) (z := 1) (by_ := 8) (xs := []) (pss := []) (es := []) (ss := []) (d := (.ints .i64 [])) rfl rfl (lt_ok rfl) (by kernel_rfl) rfl rfl .nil (by simp) (le_ok rfl) (le_ok rfl) rfl .nil rfl (by simp) (by simp) rfl trivial rfl rfl) ?_
     refine TL.as (.one (.row 41 [])) ?_
     refine TL.nil ?_
     refine T.seq ?_
     refine T.seq ?_
     refine T.region ?_
     refine TL.as (pI 0) ?_
     refine TL.nil ?_
     refine T.block ?_
     refine T.loop (ι := Nat) (fun xx_ => { tm := [(0, (.one (.d (.ints .i64 h)))), (1, (pS b)), (8, (pI (4 * (xx_ : Int)))), (7, (.one (.row 41 [])))], rows := [(41, (3, (.ints .i64 (w16 b xx_))))], boxes := [] }) (fun xx_ => xx_ ≤ 16) (fun xx_ => 16 - xx_) 0 ?_ ?_ ?_
     · refine Env.le_mk ⟨rfl, rfl, ?_, rfl, trivial⟩ ⟨?_, trivial⟩ trivial <;> (first | rfl | (refine congrArg (fun x => some (_, D.ints .i64 x)) ?_; first | rfl | fail) | (refine congrArg (fun n => PV.one (.d (.int .i64 n))) ?_; first | rfl | omega | (simp; done)))
     · exact Nat.zero_le _
     ·
      intro i hx
      try dsimp only at hx ⊢
      have hwo_ : wordsOk h = true := by rw [List.take_of_length_le (by omega)] at hx2; exact hx2
      have hl_ := w16_len b i
      have hu0_ := getD_u8 h0_ (4 * (i : Int)).toNat
      have hu1_ := getD_u8 h0_ (4 * (i : Int) + 1).toNat
      have hu2_ := getD_u8 h0_ (4 * (i : Int) + 2).toNat
      have hu3_ := getD_u8 h0_ (4 * (i : Int) + 3).toNat
      refine T.seq ?_
      refine T.seq ?_
      refine T.region ?_
      refine TL.mv (pI (4 * (i : Int))) ?_
      refine TL.c (Step.bin rfl rfl (lt_ok rfl) rfl rfl (Bin.lss (k := .i64) (a := (4 * (i : Int))) (b := 64))) ?_
      refine TL.nil ?_
      refine T.cond (b := decide ((4 * (i : Int)) < 64)) rfl (fun h6 => ?_) (fun h6 => ?_)
      ·
       replace h6 := of_decide_eq_true h6
       refine T.skip ?_
       refine T.seq ?_
       refine T.block ?_
       refine T.draw [⟨46, (.one (.row 41 [])), []⟩, ⟨47, (pS b), []⟩, ⟨48, (pI (4 * (i : Int))), []⟩, ⟨49, (.one (.eptr (.ints .u8 b) (4 * (i : Int)).toNat 0)), []⟩, ⟨50, (.one (.d (.int .u8 (b.getD (4 * (i : Int)).toNat 0)))), []⟩, ⟨51, (pI (b.getD (4 * (i : Int)).toNat 0)), []⟩, ⟨52, (pI (bshl (b.getD (4 * (i : Int)).toNat 0) 24)), []⟩, ⟨53, (pS b), []⟩, ⟨54, (pI (4 * (i : Int))), []⟩, ⟨55, (pI ((4 * (i : Int)) + 1)), []⟩, ⟨56, (.one (.eptr (.ints .u8 b) ((4 * (i : Int)) + 1).toNat 0)), []⟩, ⟨57, (.one (.d (.int .u8 (b.getD ((4 * (i : Int)) + 1).toNat 0)))), []⟩, ⟨58, (pI (b.getD ((4 * (i : Int)) + 1).toNat 0)), []⟩, ⟨59, (pI (bshl (b.getD ((4 * (i : Int)) + 1).toNat 0) 16)), []⟩, ⟨60, (pI (bor (bshl (b.getD (4 * (i : Int)).toNat 0) 24) (bshl (b.getD ((4 * (i : Int)) + 1).toNat 0) 16))), []⟩, ⟨61, (pS b), []⟩, ⟨62, (pI (4 * (i : Int))), []⟩, ⟨63, (pI ((4 * (i : Int)) + 2)), []⟩, ⟨64, (.one (.eptr (.ints .u8 b) ((4 * (i : Int)) + 2).toNat 0)), []⟩, ⟨65, (.one (.d (.int .u8 (b.getD ((4 * (i : Int)) + 2).toNat 0)))), []⟩, ⟨66, (pI (b.getD ((4 * (i : Int)) + 2).toNat 0)), []⟩, ⟨67, (pI (bshl (b.getD ((4 * (i : Int)) + 2).toNat 0) 8)), []⟩, ⟨68, (pI (bor (bor (bshl (b.getD (4 * (i : Int)).toNat 0) 24) (bshl (b.getD ((4 * (i : Int)) + 1).toNat 0) 16)) (bshl (b.getD ((4 * (i : Int)) + 2).toNat 0) 8))), []⟩, ⟨69, (pS b), []⟩, ⟨70, (pI (4 * (i : Int))), []⟩, ⟨71, (pI ((4 * (i : Int)) + 3)), []⟩, ⟨72, (.one (.eptr (.ints .u8 b) ((4 * (i : Int)) + 3).toNat 0)), []⟩, ⟨73, (.one (.d (.int .u8 (b.getD ((4 * (i : Int)) + 3).toNat 0)))), []⟩, ⟨74, (pI (b.getD ((4 * (i : Int)) + 3).toNat 0)), []⟩, ⟨75, (pI (bor (bor (bor (bshl (b.getD (4 * (i : Int)).toNat 0) 24) (bshl (b.getD ((4 * (i : Int)) + 1).toNat 0) 16)) (bshl (b.getD ((4 * (i : Int)) + 2).toNat 0) 8)) (b.getD ((4 * (i : Int)) + 3).toNat 0))), []⟩, ⟨76, (.one (.d (.ints .i64 [bor (bor (bor (bshl (b.getD (4 * (i : Int)).toNat 0) 24) (bshl (b.getD ((4 * (i : Int)) + 1).toNat 0) 16)) (bshl (b.getD ((4 * (i : Int)) + 2).toNat 0) 8)) (b.getD ((4 * (i : Int)) + 3).toNat 0)]))), []⟩] (by kernel_rfl) (by kernel_rfl) ?_ ?_
       ·
        refine .cons (fun E A => A.mv 7 46) ?_
        refine .cons (fun E A => A.mv 1 47) ?_
        refine .cons (fun E A => A.mv 8 48) ?_
        refine .cons (fun E A => OpStep.plain rfl (Step.index (e := 5) (z := 1) (i := (4 * (i : Int))) (t := 49) rfl rfl (by exact lt_ok rfl) (by kernel_rfl) (A.g 47 rfl) rfl rfl (lt_ok rfl) (A.g 48 rfl) (by first | omega | (simp; omega) | (simp [w16_len, wN_len]; omega)) (by simp only [D.size]; first | omega | (simp; omega) | (simp [w16_len, wN_len]; omega)))) ?_
        refine .cons (fun E A => OpStep.plain rfl (Step.load (e := (.int .u8 (b.getD (4 * (i : Int)).toNat 0))) (t := 50) rfl rfl (by exact lt_ok rfl) (by kernel_rfl) (A.g 49 rfl) rfl)) ?_
        refine .cons (fun E A => OpStep.plain rfl (Step.conv (c := (b.getD (4 * (i : Int)).toNat 0)) (t := 51) rfl rfl (by exact lt_ok rfl) (by kernel_rfl) (by kernel_rfl) (A.g 50 rfl) (wrap_ok (by first | omega | (simp; omega) | (simp [w16_len, wN_len]; omega)) (by first | omega | (simp; omega) | (simp [w16_len, wN_len]; omega))))) ?_
        refine .cons (fun E A => OpStep.plain rfl (Step.bd (r := .int .i64 (bshl (b.getD (4 * (i : Int)).toNat 0) 24)) 52 (A.g 51 rfl) rfl (Bin.shl (k := .i64) (k' := .u64) (a := (b.getD (4 * (i : Int)).toNat 0)) (b := 24) (by first | omega | (simp; omega) | (simp [w16_len, wN_len]; omega)) (rfl)))) ?_
        refine .cons (fun E A => A.mv 1 53) ?_
        refine .cons (fun E A => A.mv 8 54) ?_
        refine .cons (fun E A => OpStep.plain rfl (Step.bd (r := .int .i64 ((4 * (i : Int)) + 1)) 55 (A.g 54 rfl) rfl (Bin.add (a := (4 * (i : Int))) (b := 1) (by first | exact wrap_ok (by first | omega | (simp; omega) | (simp [w16_len, wN_len]; omega)) (by first | omega | (simp; omega) | (simp [w16_len, wN_len]; omega)) | rfl)))) ?_
        refine .cons (fun E A => OpStep.plain rfl (Step.index (e := 5) (z := 1) (i := ((4 * (i : Int)) + 1)) (t := 56) rfl rfl (by exact lt_ok rfl) (by kernel_rfl) (A.g 53 rfl) rfl rfl (lt_ok rfl) (A.g 55 rfl) (by first | omega | (simp; omega) | (simp [w16_len, wN_len]; omega)) (by simp only [D.size]; first | omega | (simp; omega) | (simp [w16_len, wN_len]; omega)))) ?_
        refine .cons (fun E A => OpStep.plain rfl (Step.load (e := (.int .u8 (b.getD ((4 * (i : Int)) + 1).toNat 0))) (t := 57) rfl rfl (by exact lt_ok rfl) (by kernel_rfl) (A.g 56 rfl) rfl)) ?_
        refine .cons (fun E A => OpStep.plain rfl (Step.conv (c := (b.getD ((4 * (i : Int)) + 1).toNat 0)) (t := 58) rfl rfl (by exact lt_ok rfl) (by kernel_rfl) (by kernel_rfl) (A.g 57 rfl) (wrap_ok (by first | omega | (simp; omega) | (simp [w16_len, wN_len]; omega)) (by first | omega | (simp; omega) | (simp [w16_len, wN_len]; omega))))) ?_
        refine .cons (fun E A => OpStep.plain rfl (Step.bd (r := .int .i64 (bshl (b.getD ((4 * (i : Int)) + 1).toNat 0) 16)) 59 (A.g 58 rfl) rfl (Bin.shl (k := .i64) (k' := .u64) (a := (b.getD ((4 * (i : Int)) + 1).toNat 0)) (b := 16) (by first | omega | (simp; omega) | (simp [w16_len, wN_len]; omega)) (rfl)))) ?_
        refine .cons (fun E A => OpStep.plain rfl (Step.bd (r := .int .i64 (bor (bshl (b.getD (4 * (i : Int)).toNat 0) 24) (bshl (b.getD ((4 * (i : Int)) + 1).toNat 0) 16))) 60 (A.g 52 rfl) (A.g 59 rfl) (Bin.or (k := .i64) (a := (bshl (b.getD (4 * (i : Int)).toNat 0) 24)) (b := (bshl (b.getD ((4 * (i : Int)) + 1).toNat 0) 16)) (rfl)))) ?_
        refine .cons (fun E A => A.mv 1 61) ?_
        refine .cons (fun E A => A.mv 8 62) ?_
        refine .cons (fun E A => OpStep.plain rfl (Step.bd (r := .int .i64 ((4 * (i : Int)) + 2)) 63 (A.g 62 rfl) rfl (Bin.add (a := (4 * (i : Int))) (b := 2) (by first | exact wrap_ok (by first | omega | (simp; omega) | (simp [w16_len, wN_len]; omega)) (by first | omega | (simp; omega) | (simp [w16_len, wN_len]; omega)) | rfl)))) ?_
        refine .cons (fun E A => OpStep.plain rfl (Step.index (e := 5) (z := 1) (i := ((4 * (i : Int)) + 2)) (t := 64) rfl rfl (by exact lt_ok rfl) (by kernel_rfl) (A.g 61 rfl) rfl rfl (lt_ok rfl) (A.g 63 rfl) (by first | omega | (simp; omega) | (simp [w16_len, wN_len]; omega)) (by simp only [D.size]; first | omega | (simp; omega) | (simp [w16_len, wN_len]; omega)))) ?_
        refine .cons (fun E A => OpStep.plain rfl (Step.load (e := (.int .u8 (b.getD ((4 * (i : Int)) + 2).toNat 0))) (t := 65) rfl rfl (by exact lt_ok rfl) (by kernel_rfl) (A.g 64 rfl) rfl)) ?_
        refine .cons (fun E A => OpStep.plain rfl (Step.conv (c := (b.getD ((4 * (i : Int)) + 2).toNat 0)) (t := 66) rfl rfl (by exact lt_ok rfl) (by kernel_rfl) (by kernel_rfl) (A.g 65 rfl) (wrap_ok (by first | omega | (simp; omega) | (simp [w16_len, wN_len]; omega)) (by first | omega | (simp; omega) | (simp [w16_len, wN_len]; omega))))) ?_
        refine .cons (fun E A => OpStep.plain rfl (Step.bd (r := .int .i64 (bshl (b.getD ((4 * (i : Int)) + 2).toNat 0) 8)) 67 (A.g 66 rfl) rfl (Bin.shl (k := .i64) (k' := .u64) (a := (b.getD ((4 * (i : Int)) + 2).toNat 0)) (b := 8) (by first | omega | (simp; omega) | (simp [w16_len, wN_len]; omega)) (rfl)))) ?_
        refine .cons (fun E A => OpStep.plain rfl (Step.bd (r := .int .i64 (bor (bor (bshl (b.getD (4 * (i : Int)).toNat 0) 24) (bshl (b.getD ((4 * (i : Int)) + 1).toNat 0) 16)) (bshl (b.getD ((4 * (i : Int)) + 2).toNat 0) 8))) 68 (A.g 60 rfl) (A.g 67 rfl) (Bin.or (k := .i64) (a := (bor (bshl (b.getD (4 * (i : Int)).toNat 0) 24) (bshl (b.getD ((4 * (i : Int)) + 1).toNat 0) 16))) (b := (bshl (b.getD ((4 * (i : Int)) + 2).toNat 0) 8)) (rfl)))) ?_
        refine .cons (fun E A => A.mv 1 69) ?_
        refine .cons (fun E A => A.mv 8 70) ?_
        refine .cons (fun E A => OpStep.plain rfl (Step.bd (r := .int .i64 ((4 * (i : Int)) + 3)) 71 (A.g 70 rfl) rfl (Bin.add (a := (4 * (i : Int))) (b := 3) (by first | exact wrap_ok (by first | omega | (simp; omega) | (simp [w16_len, wN_len]; omega)) (by first | omega | (simp; omega) | (simp [w16_len, wN_len]; omega)) | rfl)))) ?_
        refine .cons (fun E A => OpStep.plain rfl (Step.index (e := 5) (z := 1) (i := ((4 * (i : Int)) + 3)) (t := 72) rfl rfl (by exact lt_ok rfl) (by kernel_rfl) (A.g 69 rfl) rfl rfl (lt_ok rfl) (A.g 71 rfl) (by first | omega | (simp; omega) | (simp [w16_len, wN_len]; omega)) (by simp only [D.size]; first | omega | (simp; omega) | (simp [w16_len, wN_len]; omega)))) ?_
        refine .cons (fun E A => OpStep.plain rfl (Step.load (e := (.int .u8 (b.getD ((4 * (i : Int)) + 3).toNat 0))) (t := 73) rfl rfl (by exact lt_ok rfl) (by kernel_rfl) (A.g 72 rfl) rfl)) ?_
        refine .cons (fun E A => OpStep.plain rfl (Step.conv (c := (b.getD ((4 * (i : Int)) + 3).toNat 0)) (t := 74) rfl rfl (by exact lt_ok rfl) (by kernel_rfl) (by kernel_rfl) (A.g 73 rfl) (wrap_ok (by first | omega | (simp; omega) | (simp [w16_len, wN_len]; omega)) (by first | omega | (simp; omega) | (simp [w16_len, wN_len]; omega))))) ?_
        refine .cons (fun E A => OpStep.plain rfl (Step.bd (r := .int .i64 (bor (bor (bor (bshl (b.getD (4 * (i : Int)).toNat 0) 24) (bshl (b.getD ((4 * (i : Int)) + 1).toNat 0) 16)) (bshl (b.getD ((4 * (i : Int)) + 2).toNat 0) 8)) (b.getD ((4 * (i : Int)) + 3).toNat 0))) 75 (A.g 68 rfl) (A.g 74 rfl) (Bin.or (k := .i64) (a := (bor (bor (bshl (b.getD (4 * (i : Int)).toNat 0) 24) (bshl (b.getD ((4 * (i : Int)) + 1).toNat 0) 16)) (bshl (b.getD ((4 * (i : Int)) + 2).toNat 0) 8))) (b := (b.getD ((4 * (i : Int)) + 3).toNat 0)) (rfl)))) ?_
        refine .cons (fun E A => OpStep.plain rfl (Step.lit_d (e := 3) (z := 1) (by_ := 8) (xs := [.tmp 75]) (pss := [[cI (bor (bor (bor (bshl (b.getD (4 * (i : Int)).toNat 0) 24) (bshl (b.getD ((4 * (i : Int)) + 1).toNat 0) 16)) (bshl (b.getD ((4 * (i : Int)) + 2).toNat 0) 8)) (b.getD ((4 * (i : Int)) + 3).toNat 0))]]) (ds := [(.int .i64 (bor (bor (bor (bshl (b.getD (4 * (i : Int)).toNat 0) 24) (bshl (b.getD ((4 * (i : Int)) + 1).toNat 0) 16)) (bshl (b.getD ((4 * (i : Int)) + 2).toNat 0) 8)) (b.getD ((4 * (i : Int)) + 3).toNat 0)))]) (d := (.ints .i64 [bor (bor (bor (bshl (b.getD (4 * (i : Int)).toNat 0) 24) (bshl (b.getD ((4 * (i : Int)) + 1).toNat 0) 16)) (bshl (b.getD ((4 * (i : Int)) + 2).toNat 0) 8)) (b.getD ((4 * (i : Int)) + 3).toNat 0)])) (t := 76) rfl rfl (by exact lt_ok rfl) (by kernel_rfl) rfl rfl (.cons (by exact (congrArg PV.flat (A.g 75 rfl)).trans rfl) .nil) (by simp) (le_ok rfl) (le_ok rfl) rfl rfl trivial rfl rfl)) ?_
        exact .nil _ _
       refine TL.c (Step.append (e := 3) (z := 1) (by_ := 8) (d := (.ints .i64 (w16 b i))) (dy := (.ints .i64 [bor (bor (bor (bshl (b.getD (4 * (i : Int)).toNat 0) 24) (bshl (b.getD ((4 * (i : Int)) + 1).toNat 0) 16)) (bshl (b.getD ((4 * (i : Int)) + 2).toNat 0) 8)) (b.getD ((4 * (i : Int)) + 3).toNat 0)])) (d' := (.ints .i64 ((w16 b i) ++ [bor (bor (bor (bshl (b.getD (4 * (i : Int)).toNat 0) 24) (bshl (b.getD ((4 * (i : Int)) + 1).toNat 0) 16)) (bshl (b.getD ((4 * (i : Int)) + 2).toNat 0) 8)) (b.getD ((4 * (i : Int)) + 3).toNat 0)]))) (ss := []) rfl rfl (lt_ok rfl) (by kernel_rfl) rfl rfl rfl (lt_ok rfl) rfl (.froz rfl (by simp [D.flat, D.val])) (by simp) rfl (by simp only [D.size, List.length_map]; first | omega | (simp only [List.length_append, List.length_cons, List.length_nil]; omega) | (simp; omega) | (simp only [List.length_append] at *; omega)) (by simp only [D.size, List.length_map]; first | omega | (simp only [List.length_append, List.length_cons, List.length_nil]; omega) | (simp; omega) | (simp only [List.length_append] at *; omega)) (by simp)) ?_
       refine TL.as (.one (.row 41 [])) ?_
       refine TL.nil ?_
       refine T.region ?_
       refine TL.mv (pI (4 * (i : Int))) ?_
       refine TL.c (Step.bin (r := .int .i64 ((4 * (i : Int)) + 4)) rfl rfl (lt_ok rfl) rfl rfl (Bin.add (a := (4 * (i : Int))) (b := 4) (by first | exact wrap_ok (by first | omega | (simp; omega) | (simp [w16_len, wN_len]; omega)) (by first | omega | (simp; omega) | (simp [w16_len, wN_len]; omega)) | rfl))) ?_
       refine TL.as (pI ((4 * (i : Int)) + 4)) ?_
       refine TL.nil ?_
       refine ⟨i + 1, by omega, by first | omega | (dsimp only; omega), Env.le_mk ⟨rfl, rfl, ?_, rfl, trivial⟩ ⟨?_, trivial⟩ trivial⟩ <;> (first | rfl | (refine congrArg (fun x => some (_, D.ints .i64 x)) ?_; first | rfl | fail) | (refine congrArg (fun n => PV.one (.d (.int .i64 n))) ?_; first | rfl | omega | (simp; done)))
      ·
       replace h6 := of_decide_eq_false h6
       refine T.exit ?_
       refine T.seq ?_
       refine T.seq ?_
       refine T.region ?_
       refine TL.as (pI 16) ?_
       refine TL.nil ?_
       refine T.block ?_
       refine T.loop (ι := Nat) (fun xx_ => { tm := [(0, (.one (.d (.ints .i64 h)))), (9, (pI (16 + (xx_ : Int)))), (7, (.one (.row 41 [])))], rows := [(41, (3, (.ints .i64 (wN b xx_))))], boxes := [] }) (fun xx_ => xx_ ≤ 48) (fun xx_ => 48 - xx_) 0 ?_ ?_ ?_
       · refine Env.le_mk ⟨rfl, ?_, rfl, trivial⟩ ⟨?_, trivial⟩ trivial <;> (first | exact congrArg (fun x => some (_, D.ints .i64 (w16 b x))) (show i = 16 by omega) | rfl | (refine congrArg (fun x => some (_, D.ints .i64 x)) ?_; first | rfl | fail) | (refine congrArg (fun n => PV.one (.d (.int .i64 n))) ?_; first | rfl | omega | (simp; done)))
       · exact Nat.zero_le _
       ·
        intro i hx
        try dsimp only at hx ⊢
        have hl_ := wN_len b i
        refine T.seq ?_
        refine T.seq ?_
        refine T.region ?_
        refine TL.mv (pI (16 + (i : Int))) ?_
        refine TL.c (Step.bin rfl rfl (lt_ok rfl) rfl rfl (Bin.lss (k := .i64) (a := (16 + (i : Int))) (b := 64))) ?_
        refine TL.nil ?_
        refine T.cond (b := decide ((16 + (i : Int)) < 64)) rfl (fun h7 => ?_) (fun h7 => ?_)
        ·
         replace h7 := of_decide_eq_true h7
         refine T.skip ?_
         refine T.seq ?_
         refine T.block ?_
         refine T.seq ?_
         refine T.region ?_
         refine TL.mv (.one (.row 41 [])) ?_
         refine TL.mv (pI (16 + (i : Int))) ?_
         refine TL.c (Step.bin (r := .int .i64 ((16 + (i : Int)) - 15)) rfl rfl (lt_ok rfl) rfl rfl (Bin.sub (a := (16 + (i : Int))) (b := 15) (by first | exact wrap_ok (by first | omega | (simp; omega) | (simp [w16_len, wN_len]; omega)) (by first | omega | (simp; omega) | (simp [w16_len, wN_len]; omega)) | rfl))) ?_
         refine TL.c (Step.index_row (e := 3) (z := 1) (i := ((16 + (i : Int)) - 15)) rfl rfl (lt_ok rfl) (by kernel_rfl) rfl rfl rfl rfl (lt_ok rfl) rfl (by first | omega | (simp; omega) | (simp [w16_len, wN_len]; omega)) (by simp only [D.at_, D.cell, D.size]; first | omega | (simp; omega) | (simp [w16_len, wN_len]; omega))) ?_
         refine TL.c (Step.load_row (c := cI ((wN b i).getD ((16 + (i : Int)) - 15).toNat 0)) rfl rfl (lt_ok rfl) (by kernel_rfl) rfl rfl rfl) ?_
         refine TL.as (pI ((wN b i).getD ((16 + (i : Int)) - 15).toNat 0)) ?_
         refine TL.nil ?_
         refine T.seq ?_
         refine T.region ?_
         refine TL.mv (.one (.row 41 [])) ?_
         refine TL.mv (pI (16 + (i : Int))) ?_
         refine TL.c (Step.bin (r := .int .i64 ((16 + (i : Int)) - 2)) rfl rfl (lt_ok rfl) rfl rfl (Bin.sub (a := (16 + (i : Int))) (b := 2) (by first | exact wrap_ok (by first | omega | (simp; omega) | (simp [w16_len, wN_len]; omega)) (by first | omega | (simp; omega) | (simp [w16_len, wN_len]; omega)) | rfl))) ?_
         refine TL.c (Step.index_row (e := 3) (z := 1) (i := ((16 + (i : Int)) - 2)) rfl rfl (lt_ok rfl) (by kernel_rfl) rfl rfl rfl rfl (lt_ok rfl) rfl (by first | omega | (simp; omega) | (simp [w16_len, wN_len]; omega)) (by simp only [D.at_, D.cell, D.size]; first | omega | (simp; omega) | (simp [w16_len, wN_len]; omega))) ?_
         refine TL.c (Step.load_row (c := cI ((wN b i).getD ((16 + (i : Int)) - 2).toNat 0)) rfl rfl (lt_ok rfl) (by kernel_rfl) rfl rfl rfl) ?_
         refine TL.as (pI ((wN b i).getD ((16 + (i : Int)) - 2).toNat 0)) ?_
         refine TL.nil ?_
         refine T.seq ?_
         refine T.region ?_
         refine TL.mv (pI ((wN b i).getD ((16 + (i : Int)) - 15).toNat 0)) ?_
         refine TL.c (Step.cl (xs := [.tmp 92, .const (.int .i64 7)]) (ps := [(pI ((wN b i).getD ((16 + (i : Int)) - 15).toNat 0)), (pI 7)]) (g := .func 187) false (.cons (.one (.d _)) (.cons (.one (.d _)) .nil)) (ok_spec_l04Turn ((wN b i).getD ((16 + (i : Int)) - 15).toNat 0) 7 (by first | omega | decide))) ?_
         refine TL.mv (pI ((wN b i).getD ((16 + (i : Int)) - 15).toNat 0)) ?_
         refine TL.c (Step.cl (xs := [.tmp 94, .const (.int .i64 18)]) (ps := [(pI ((wN b i).getD ((16 + (i : Int)) - 15).toNat 0)), (pI 18)]) (g := .func 187) false (.cons (.one (.d _)) (.cons (.one (.d _)) .nil)) (ok_spec_l04Turn ((wN b i).getD ((16 + (i : Int)) - 15).toNat 0) 18 (by first | omega | decide))) ?_
         refine TL.c (Step.bin (r := .int .i64 (bxor (turnW ((wN b i).getD ((16 + (i : Int)) - 15).toNat 0) 7) (turnW ((wN b i).getD ((16 + (i : Int)) - 15).toNat 0) 18))) rfl rfl (lt_ok rfl) rfl rfl (Bin.xor (k := .i64) (a := (turnW ((wN b i).getD ((16 + (i : Int)) - 15).toNat 0) 7)) (b := (turnW ((wN b i).getD ((16 + (i : Int)) - 15).toNat 0) 18)) (rfl))) ?_
         refine TL.mv (pI ((wN b i).getD ((16 + (i : Int)) - 15).toNat 0)) ?_
         refine TL.c (Step.bin (r := .int .i64 (bshr ((wN b i).getD ((16 + (i : Int)) - 15).toNat 0) 3)) rfl rfl (lt_ok rfl) rfl rfl (Bin.shr (k := .i64) (k' := .u64) (a := ((wN b i).getD ((16 + (i : Int)) - 15).toNat 0)) (b := 3) (by first | omega | (simp; omega) | (simp [w16_len, wN_len]; omega)) (rfl))) ?_
         refine TL.c (Step.bin (r := .int .i64 (bxor (bxor (turnW ((wN b i).getD ((16 + (i : Int)) - 15).toNat 0) 7) (turnW ((wN b i).getD ((16 + (i : Int)) - 15).toNat 0) 18)) (bshr ((wN b i).getD ((16 + (i : Int)) - 15).toNat 0) 3))) rfl rfl (lt_ok rfl) rfl rfl (Bin.xor (k := .i64) (a := (bxor (turnW ((wN b i).getD ((16 + (i : Int)) - 15).toNat 0) 7) (turnW ((wN b i).getD ((16 + (i : Int)) - 15).toNat 0) 18))) (b := (bshr ((wN b i).getD ((16 + (i : Int)) - 15).toNat 0) 3)) (rfl))) ?_
         refine TL.as (pI (bxor (bxor (turnW ((wN b i).getD ((16 + (i : Int)) - 15).toNat 0) 7) (turnW ((wN b i).getD ((16 + (i : Int)) - 15).toNat 0) 18)) (bshr ((wN b i).getD ((16 + (i : Int)) - 15).toNat 0) 3))) ?_
         refine TL.nil ?_
         refine T.seq ?_
         refine T.region ?_
         refine TL.mv (pI ((wN b i).getD ((16 + (i : Int)) - 2).toNat 0)) ?_
         refine TL.c (Step.cl (xs := [.tmp 100, .const (.int .i64 17)]) (ps := [(pI ((wN b i).getD ((16 + (i : Int)) - 2).toNat 0)), (pI 17)]) (g := .func 187) false (.cons (.one (.d _)) (.cons (.one (.d _)) .nil)) (ok_spec_l04Turn ((wN b i).getD ((16 + (i : Int)) - 2).toNat 0) 17 (by first | omega | decide))) ?_
         refine TL.mv (pI ((wN b i).getD ((16 + (i : Int)) - 2).toNat 0)) ?_
         refine TL.c (Step.cl (xs := [.tmp 102, .const (.int .i64 19)]) (ps := [(pI ((wN b i).getD ((16 + (i : Int)) - 2).toNat 0)), (pI 19)]) (g := .func 187) false (.cons (.one (.d _)) (.cons (.one (.d _)) .nil)) (ok_spec_l04Turn ((wN b i).getD ((16 + (i : Int)) - 2).toNat 0) 19 (by first | omega | decide))) ?_
         refine TL.c (Step.bin (r := .int .i64 (bxor (turnW ((wN b i).getD ((16 + (i : Int)) - 2).toNat 0) 17) (turnW ((wN b i).getD ((16 + (i : Int)) - 2).toNat 0) 19))) rfl rfl (lt_ok rfl) rfl rfl (Bin.xor (k := .i64) (a := (turnW ((wN b i).getD ((16 + (i : Int)) - 2).toNat 0) 17)) (b := (turnW ((wN b i).getD ((16 + (i : Int)) - 2).toNat 0) 19)) (rfl))) ?_
         refine TL.mv (pI ((wN b i).getD ((16 + (i : Int)) - 2).toNat 0)) ?_
         refine TL.c (Step.bin (r := .int .i64 (bshr ((wN b i).getD ((16 + (i : Int)) - 2).toNat 0) 10)) rfl rfl (lt_ok rfl) rfl rfl (Bin.shr (k := .i64) (k' := .u64) (a := ((wN b i).getD ((16 + (i : Int)) - 2).toNat 0)) (b := 10) (by first | omega | (simp; omega) | (simp [w16_len, wN_len]; omega)) (rfl))) ?_
         refine TL.c (Step.bin (r := .int .i64 (bxor (bxor (turnW ((wN b i).getD ((16 + (i : Int)) - 2).toNat 0) 17) (turnW ((wN b i).getD ((16 + (i : Int)) - 2).toNat 0) 19)) (bshr ((wN b i).getD ((16 + (i : Int)) - 2).toNat 0) 10))) rfl rfl (lt_ok rfl) rfl rfl (Bin.xor (k := .i64) (a := (bxor (turnW ((wN b i).getD ((16 + (i : Int)) - 2).toNat 0) 17) (turnW ((wN b i).getD ((16 + (i : Int)) - 2).toNat 0) 19))) (b := (bshr ((wN b i).getD ((16 + (i : Int)) - 2).toNat 0) 10)) (rfl))) ?_
         refine TL.as (pI (bxor (bxor (turnW ((wN b i).getD ((16 + (i : Int)) - 2).toNat 0) 17) (turnW ((wN b i).getD ((16 + (i : Int)) - 2).toNat 0) 19)) (bshr ((wN b i).getD ((16 + (i : Int)) - 2).toNat 0) 10))) ?_
         refine TL.nil ?_
         refine T.draw [⟨108, (.one (.row 41 [])), []⟩, ⟨109, (.one (.row 41 [])), []⟩, ⟨110, (pI (16 + (i : Int))), []⟩, ⟨111, (pI ((16 + (i : Int)) - 16)), []⟩, ⟨112, (.one (.rptr 41 [] ((16 + (i : Int)) - 16).toNat 0)), []⟩, ⟨113, (pI ((wN b i).getD ((16 + (i : Int)) - 16).toNat 0)), []⟩, ⟨114, (pI (bxor (bxor (turnW ((wN b i).getD ((16 + (i : Int)) - 15).toNat 0) 7) (turnW ((wN b i).getD ((16 + (i : Int)) - 15).toNat 0) 18)) (bshr ((wN b i).getD ((16 + (i : Int)) - 15).toNat 0) 3))), []⟩, ⟨115, (pI (wadd ((wN b i).getD ((16 + (i : Int)) - 16).toNat 0) (bxor (bxor (turnW ((wN b i).getD ((16 + (i : Int)) - 15).toNat 0) 7) (turnW ((wN b i).getD ((16 + (i : Int)) - 15).toNat 0) 18)) (bshr ((wN b i).getD ((16 + (i : Int)) - 15).toNat 0) 3)))), []⟩, ⟨116, (.one (.row 41 [])), []⟩, ⟨117, (pI (16 + (i : Int))), []⟩, ⟨118, (pI ((16 + (i : Int)) - 7)), []⟩, ⟨119, (.one (.rptr 41 [] ((16 + (i : Int)) - 7).toNat 0)), []⟩, ⟨120, (pI ((wN b i).getD ((16 + (i : Int)) - 7).toNat 0)), []⟩, ⟨121, (pI (wadd (wadd ((wN b i).getD ((16 + (i : Int)) - 16).toNat 0) (bxor (bxor (turnW ((wN b i).getD ((16 + (i : Int)) - 15).toNat 0) 7) (turnW ((wN b i).getD ((16 + (i : Int)) - 15).toNat 0) 18)) (bshr ((wN b i).getD ((16 + (i : Int)) - 15).toNat 0) 3))) ((wN b i).getD ((16 + (i : Int)) - 7).toNat 0))), []⟩, ⟨122, (pI (bxor (bxor (turnW ((wN b i).getD ((16 + (i : Int)) - 2).toNat 0) 17) (turnW ((wN b i).getD ((16 + (i : Int)) - 2).toNat 0) 19)) (bshr ((wN b i).getD ((16 + (i : Int)) - 2).toNat 0) 10))), []⟩, ⟨123, (pI (wadd (wadd (wadd ((wN b i).getD ((16 + (i : Int)) - 16).toNat 0) (bxor (bxor (turnW ((wN b i).getD ((16 + (i : Int)) - 15).toNat 0) 7) (turnW ((wN b i).getD ((16 + (i : Int)) - 15).toNat 0) 18)) (bshr ((wN b i).getD ((16 + (i : Int)) - 15).toNat 0) 3))) ((wN b i).getD ((16 + (i : Int)) - 7).toNat 0)) (bxor (bxor (turnW ((wN b i).getD ((16 + (i : Int)) - 2).toNat 0) 17) (turnW ((wN b i).getD ((16 + (i : Int)) - 2).toNat 0) 19)) (bshr ((wN b i).getD ((16 + (i : Int)) - 2).toNat 0) 10)))), []⟩, ⟨124, (pI (band (wadd (wadd (wadd ((wN b i).getD ((16 + (i : Int)) - 16).toNat 0) (bxor (bxor (turnW ((wN b i).getD ((16 + (i : Int)) - 15).toNat 0) 7) (turnW ((wN b i).getD ((16 + (i : Int)) - 15).toNat 0) 18)) (bshr ((wN b i).getD ((16 + (i : Int)) - 15).toNat 0) 3))) ((wN b i).getD ((16 + (i : Int)) - 7).toNat 0)) (bxor (bxor (turnW ((wN b i).getD ((16 + (i : Int)) - 2).toNat 0) 17) (turnW ((wN b i).getD ((16 + (i : Int)) - 2).toNat 0) 19)) (bshr ((wN b i).getD ((16 + (i : Int)) - 2).toNat 0) 10))) 4294967295)), []⟩, ⟨125, (.one (.d (.ints .i64 [band (wadd (wadd (wadd ((wN b i).getD ((16 + (i : Int)) - 16).toNat 0) (bxor (bxor (turnW ((wN b i).getD ((16 + (i : Int)) - 15).toNat 0) 7) (turnW ((wN b i).getD ((16 + (i : Int)) - 15).toNat 0) 18)) (bshr ((wN b i).getD ((16 + (i : Int)) - 15).toNat 0) 3))) ((wN b i).getD ((16 + (i : Int)) - 7).toNat 0)) (bxor (bxor (turnW ((wN b i).getD ((16 + (i : Int)) - 2).toNat 0) 17) (turnW ((wN b i).getD ((16 + (i : Int)) - 2).toNat 0) 19)) (bshr ((wN b i).getD ((16 + (i : Int)) - 2).toNat 0) 10))) 4294967295]))), []⟩] (by kernel_rfl) (by kernel_rfl) ?_ ?_
         ·
          refine .cons (fun E A => A.mv 7 108) ?_
          refine .cons (fun E A => A.mv 7 109) ?_
          refine .cons (fun E A => A.mv 9 110) ?_
          refine .cons (fun E A => OpStep.plain rfl (Step.bd (r := .int .i64 ((16 + (i : Int)) - 16)) 111 (A.g 110 rfl) rfl (Bin.sub (a := (16 + (i : Int))) (b := 16) (by first | exact wrap_ok (by first | omega | (simp; omega) | (simp [w16_len, wN_len]; omega)) (by first | omega | (simp; omega) | (simp [w16_len, wN_len]; omega)) | rfl)))) ?_
          refine .cons (fun E A => OpStep.plain rfl (Step.index_row (e := 3) (z := 1) (i := ((16 + (i : Int)) - 16)) (t := 112) rfl rfl (by exact lt_ok rfl) (by kernel_rfl) (A.g 109 rfl) (by exact (A.row 41 (by kernel_rfl)).trans rfl) rfl rfl (lt_ok rfl) (A.g 111 rfl) (by first | omega | (simp; omega) | (simp [w16_len, wN_len]; omega)) (by simp only [D.at_, D.cell, D.size]; first | omega | (simp; omega) | (simp [w16_len, wN_len]; omega)))) ?_
          refine .cons (fun E A => OpStep.plain rfl (Step.load_row (c := cI ((wN b i).getD ((16 + (i : Int)) - 16).toNat 0)) (t := 113) rfl rfl (by exact lt_ok rfl) (by kernel_rfl) (A.g 112 rfl) (by exact (A.row 41 (by kernel_rfl)).trans rfl) rfl)) ?_
          refine .cons (fun E A => A.mv 12 114) ?_
          refine .cons (fun E A => OpStep.plain rfl (Step.bd (r := .int .i64 (wadd ((wN b i).getD ((16 + (i : Int)) - 16).toNat 0) (bxor (bxor (turnW ((wN b i).getD ((16 + (i : Int)) - 15).toNat 0) 7) (turnW ((wN b i).getD ((16 + (i : Int)) - 15).toNat 0) 18)) (bshr ((wN b i).getD ((16 + (i : Int)) - 15).toNat 0) 3)))) 115 (A.g 113 rfl) (A.g 114 rfl) (Bin.add (k := .i64) (a := ((wN b i).getD ((16 + (i : Int)) - 16).toNat 0)) (b := (bxor (bxor (turnW ((wN b i).getD ((16 + (i : Int)) - 15).toNat 0) 7) (turnW ((wN b i).getD ((16 + (i : Int)) - 15).toNat 0) 18)) (bshr ((wN b i).getD ((16 + (i : Int)) - 15).toNat 0) 3))) (rfl)))) ?_
          refine .cons (fun E A => A.mv 7 116) ?_
          refine .cons (fun E A => A.mv 9 117) ?_
          refine .cons (fun E A => OpStep.plain rfl (Step.bd (r := .int .i64 ((16 + (i : Int)) - 7)) 118 (A.g 117 rfl) rfl (Bin.sub (a := (16 + (i : Int))) (b := 7) (by first | exact wrap_ok (by first | omega | (simp; omega) | (simp [w16_len, wN_len]; omega)) (by first | omega | (simp; omega) | (simp [w16_len, wN_len]; omega)) | rfl)))) ?_
          refine .cons (fun E A => OpStep.plain rfl (Step.index_row (e := 3) (z := 1) (i := ((16 + (i : Int)) - 7)) (t := 119) rfl rfl (by exact lt_ok rfl) (by kernel_rfl) (A.g 116 rfl) (by exact (A.row 41 (by kernel_rfl)).trans rfl) rfl rfl (lt_ok rfl) (A.g 118 rfl) (by first | omega | (simp; omega) | (simp [w16_len, wN_len]; omega)) (by simp only [D.at_, D.cell, D.size]; first | omega | (simp; omega) | (simp [w16_len, wN_len]; omega)))) ?_
          refine .cons (fun E A => OpStep.plain rfl (Step.load_row (c := cI ((wN b i).getD ((16 + (i : Int)) - 7).toNat 0)) (t := 120) rfl rfl (by exact lt_ok rfl) (by kernel_rfl) (A.g 119 rfl) (by exact (A.row 41 (by kernel_rfl)).trans rfl) rfl)) ?_
          refine .cons (fun E A => OpStep.plain rfl (Step.bd (r := .int .i64 (wadd (wadd ((wN b i).getD ((16 + (i : Int)) - 16).toNat 0) (bxor (bxor (turnW ((wN b i).getD ((16 + (i : Int)) - 15).toNat 0) 7) (turnW ((wN b i).getD ((16 + (i : Int)) - 15).toNat 0) 18)) (bshr ((wN b i).getD ((16 + (i : Int)) - 15).toNat 0) 3))) ((wN b i).getD ((16 + (i : Int)) - 7).toNat 0))) 121 (A.g 115 rfl) (A.g 120 rfl) (Bin.add (k := .i64) (a := (wadd ((wN b i).getD ((16 + (i : Int)) - 16).toNat 0) (bxor (bxor (turnW ((wN b i).getD ((16 + (i : Int)) - 15).toNat 0) 7) (turnW ((wN b i).getD ((16 + (i : Int)) - 15).toNat 0) 18)) (bshr ((wN b i).getD ((16 + (i : Int)) - 15).toNat 0) 3)))) (b := ((wN b i).getD ((16 + (i : Int)) - 7).toNat 0)) (rfl)))) ?_
          refine .cons (fun E A => A.mv 13 122) ?_
          refine .cons (fun E A => OpStep.plain rfl (Step.bd (r := .int .i64 (wadd (wadd (wadd ((wN b i).getD ((16 + (i : Int)) - 16).toNat 0) (bxor (bxor (turnW ((wN b i).getD ((16 + (i : Int)) - 15).toNat 0) 7) (turnW ((wN b i).getD ((16 + (i : Int)) - 15).toNat 0) 18)) (bshr ((wN b i).getD ((16 + (i : Int)) - 15).toNat 0) 3))) ((wN b i).getD ((16 + (i : Int)) - 7).toNat 0)) (bxor (bxor (turnW ((wN b i).getD ((16 + (i : Int)) - 2).toNat 0) 17) (turnW ((wN b i).getD ((16 + (i : Int)) - 2).toNat 0) 19)) (bshr ((wN b i).getD ((16 + (i : Int)) - 2).toNat 0) 10)))) 123 (A.g 121 rfl) (A.g 122 rfl) (Bin.add (k := .i64) (a := (wadd (wadd ((wN b i).getD ((16 + (i : Int)) - 16).toNat 0) (bxor (bxor (turnW ((wN b i).getD ((16 + (i : Int)) - 15).toNat 0) 7) (turnW ((wN b i).getD ((16 + (i : Int)) - 15).toNat 0) 18)) (bshr ((wN b i).getD ((16 + (i : Int)) - 15).toNat 0) 3))) ((wN b i).getD ((16 + (i : Int)) - 7).toNat 0))) (b := (bxor (bxor (turnW ((wN b i).getD ((16 + (i : Int)) - 2).toNat 0) 17) (turnW ((wN b i).getD ((16 + (i : Int)) - 2).toNat 0) 19)) (bshr ((wN b i).getD ((16 + (i : Int)) - 2).toNat 0) 10))) (rfl)))) ?_
          refine .cons (fun E A => OpStep.plain rfl (Step.bd (r := .int .i64 (band (wadd (wadd (wadd ((wN b i).getD ((16 + (i : Int)) - 16).toNat 0) (bxor (bxor (turnW ((wN b i).getD ((16 + (i : Int)) - 15).toNat 0) 7) (turnW ((wN b i).getD ((16 + (i : Int)) - 15).toNat 0) 18)) (bshr ((wN b i).getD ((16 + (i : Int)) - 15).toNat 0) 3))) ((wN b i).getD ((16 + (i : Int)) - 7).toNat 0)) (bxor (bxor (turnW ((wN b i).getD ((16 + (i : Int)) - 2).toNat 0) 17) (turnW ((wN b i).getD ((16 + (i : Int)) - 2).toNat 0) 19)) (bshr ((wN b i).getD ((16 + (i : Int)) - 2).toNat 0) 10))) 4294967295)) 124 (A.g 123 rfl) rfl (Bin.and (k := .i64) (a := (wadd (wadd (wadd ((wN b i).getD ((16 + (i : Int)) - 16).toNat 0) (bxor (bxor (turnW ((wN b i).getD ((16 + (i : Int)) - 15).toNat 0) 7) (turnW ((wN b i).getD ((16 + (i : Int)) - 15).toNat 0) 18)) (bshr ((wN b i).getD ((16 + (i : Int)) - 15).toNat 0) 3))) ((wN b i).getD ((16 + (i : Int)) - 7).toNat 0)) (bxor (bxor (turnW ((wN b i).getD ((16 + (i : Int)) - 2).toNat 0) 17) (turnW ((wN b i).getD ((16 + (i : Int)) - 2).toNat 0) 19)) (bshr ((wN b i).getD ((16 + (i : Int)) - 2).toNat 0) 10)))) (b := 4294967295) (rfl)))) ?_
          refine .cons (fun E A => OpStep.plain rfl (Step.lit_d (e := 3) (z := 1) (by_ := 8) (xs := [.tmp 124]) (pss := [[cI (band (wadd (wadd (wadd ((wN b i).getD ((16 + (i : Int)) - 16).toNat 0) (bxor (bxor (turnW ((wN b i).getD ((16 + (i : Int)) - 15).toNat 0) 7) (turnW ((wN b i).getD ((16 + (i : Int)) - 15).toNat 0) 18)) (bshr ((wN b i).getD ((16 + (i : Int)) - 15).toNat 0) 3))) ((wN b i).getD ((16 + (i : Int)) - 7).toNat 0)) (bxor (bxor (turnW ((wN b i).getD ((16 + (i : Int)) - 2).toNat 0) 17) (turnW ((wN b i).getD ((16 + (i : Int)) - 2).toNat 0) 19)) (bshr ((wN b i).getD ((16 + (i : Int)) - 2).toNat 0) 10))) 4294967295)]]) (ds := [(.int .i64 (band (wadd (wadd (wadd ((wN b i).getD ((16 + (i : Int)) - 16).toNat 0) (bxor (bxor (turnW ((wN b i).getD ((16 + (i : Int)) - 15).toNat 0) 7) (turnW ((wN b i).getD ((16 + (i : Int)) - 15).toNat 0) 18)) (bshr ((wN b i).getD ((16 + (i : Int)) - 15).toNat 0) 3))) ((wN b i).getD ((16 + (i : Int)) - 7).toNat 0)) (bxor (bxor (turnW ((wN b i).getD ((16 + (i : Int)) - 2).toNat 0) 17) (turnW ((wN b i).getD ((16 + (i : Int)) - 2).toNat 0) 19)) (bshr ((wN b i).getD ((16 + (i : Int)) - 2).toNat 0) 10))) 4294967295))]) (d := (.ints .i64 [band (wadd (wadd (wadd ((wN b i).getD ((16 + (i : Int)) - 16).toNat 0) (bxor (bxor (turnW ((wN b i).getD ((16 + (i : Int)) - 15).toNat 0) 7) (turnW ((wN b i).getD ((16 + (i : Int)) - 15).toNat 0) 18)) (bshr ((wN b i).getD ((16 + (i : Int)) - 15).toNat 0) 3))) ((wN b i).getD ((16 + (i : Int)) - 7).toNat 0)) (bxor (bxor (turnW ((wN b i).getD ((16 + (i : Int)) - 2).toNat 0) 17) (turnW ((wN b i).getD ((16 + (i : Int)) - 2).toNat 0) 19)) (bshr ((wN b i).getD ((16 + (i : Int)) - 2).toNat 0) 10))) 4294967295])) (t := 125) rfl rfl (by exact lt_ok rfl) (by kernel_rfl) rfl rfl (.cons (by exact (congrArg PV.flat (A.g 124 rfl)).trans rfl) .nil) (by simp) (le_ok rfl) (le_ok rfl) rfl rfl trivial rfl rfl)) ?_
          exact .nil _ _
         refine TL.c (Step.append (e := 3) (z := 1) (by_ := 8) (d := (.ints .i64 (wN b i))) (dy := (.ints .i64 [band (wadd (wadd (wadd ((wN b i).getD ((16 + (i : Int)) - 16).toNat 0) (bxor (bxor (turnW ((wN b i).getD ((16 + (i : Int)) - 15).toNat 0) 7) (turnW ((wN b i).getD ((16 + (i : Int)) - 15).toNat 0) 18)) (bshr ((wN b i).getD ((16 + (i : Int)) - 15).toNat 0) 3))) ((wN b i).getD ((16 + (i : Int)) - 7).toNat 0)) (bxor (bxor (turnW ((wN b i).getD ((16 + (i : Int)) - 2).toNat 0) 17) (turnW ((wN b i).getD ((16 + (i : Int)) - 2).toNat 0) 19)) (bshr ((wN b i).getD ((16 + (i : Int)) - 2).toNat 0) 10))) 4294967295])) (d' := (.ints .i64 ((wN b i) ++ [band (wadd (wadd (wadd ((wN b i).getD ((16 + (i : Int)) - 16).toNat 0) (bxor (bxor (turnW ((wN b i).getD ((16 + (i : Int)) - 15).toNat 0) 7) (turnW ((wN b i).getD ((16 + (i : Int)) - 15).toNat 0) 18)) (bshr ((wN b i).getD ((16 + (i : Int)) - 15).toNat 0) 3))) ((wN b i).getD ((16 + (i : Int)) - 7).toNat 0)) (bxor (bxor (turnW ((wN b i).getD ((16 + (i : Int)) - 2).toNat 0) 17) (turnW ((wN b i).getD ((16 + (i : Int)) - 2).toNat 0) 19)) (bshr ((wN b i).getD ((16 + (i : Int)) - 2).toNat 0) 10))) 4294967295]))) (ss := []) rfl rfl (lt_ok rfl) (by kernel_rfl) rfl rfl rfl (lt_ok rfl) rfl (.froz rfl (by simp [D.flat, D.val])) (by simp) rfl (by simp only [D.size, List.length_map]; first | omega | (simp only [List.length_append, List.length_cons, List.length_nil]; omega) | (simp; omega) | (simp only [List.length_append] at *; omega)) (by simp only [D.size, List.length_map]; first | omega | (simp only [List.length_append, List.length_cons, List.length_nil]; omega) | (simp; omega) | (simp only [List.length_append] at *; omega)) (by simp)) ?_
         refine TL.as (.one (.row 41 [])) ?_
         refine TL.nil ?_
         refine T.region ?_
         refine TL.mv (pI (16 + (i : Int))) ?_
         refine TL.c (Step.bin (r := .int .i64 ((16 + (i : Int)) + 1)) rfl rfl (lt_ok rfl) rfl rfl (Bin.add (a := (16 + (i : Int))) (b := 1) (by first | exact wrap_ok (by first | omega | (simp; omega) | (simp [w16_len, wN_len]; omega)) (by first | omega | (simp; omega) | (simp [w16_len, wN_len]; omega)) | rfl))) ?_
         refine TL.as (pI ((16 + (i : Int)) + 1)) ?_
         refine TL.nil ?_
         refine ⟨i + 1, by omega, by first | omega | (dsimp only; omega), Env.le_mk ⟨rfl, ?_, rfl, trivial⟩ ⟨?_, trivial⟩ trivial⟩ <;> (first | exact congrArg (fun x => some (_, D.ints .i64 (w16 b x))) (show i = 16 by omega) | rfl | (refine congrArg (fun x => some (_, D.ints .i64 x)) ?_; first | rfl | fail) | (refine congrArg (fun n => PV.one (.d (.int .i64 n))) ?_; first | rfl | omega | (simp; done)))
        ·
         replace h7 := of_decide_eq_false h7
         refine T.exit ?_
         refine T.seq ?_
         refine T.region ?_
         refine TL.c (Step.cl (xs := []) (ps := []) (g := .func 188) false .nil (ok_spec_l04K )) ?_
         refine TL.as (.one (.row 1127 [])) ?_
         refine TL.nil ?_
         refine T.seq ?_
         refine T.region ?_
         refine TL.c (Step.lit (e := 3) (z := 1) (by_ := 8) (xs := []) (pss := []) (es := []) (ss := []) (d := (.ints .i64 [])) rfl rfl (lt_ok rfl) (by kernel_rfl) rfl rfl .nil (by simp) (le_ok rfl) (le_ok rfl) rfl .nil rfl (by simp) (by simp) rfl trivial rfl rfl) ?_
         refine TL.mv (.one (.d (.ints .i64 h))) ?_
         refine TL.c (Step.append (e := 3) (z := 1) (by_ := 8) (d := (.ints .i64 [])) (dy := (.ints .i64 h)) (d' := (.ints .i64 ([] ++ h))) (ss := []) rfl rfl (lt_ok rfl) (by kernel_rfl) rfl rfl rfl (lt_ok rfl) rfl (.froz rfl (by simp [D.flat, D.val])) (by simp) rfl (by simp only [D.size, List.length_map]; first | omega | (simp only [List.length_append, List.length_cons, List.length_nil]; omega) | (simp; omega) | (simp only [List.length_append] at *; omega)) (by simp only [D.size, List.length_map]; first | omega | (simp only [List.length_append, List.length_cons, List.length_nil]; omega) | (simp; omega) | (simp only [List.length_append] at *; omega)) (by simp)) ?_
         refine TL.as (.one (.row 128 [])) ?_
         refine TL.nil ?_
         refine T.seq ?_
         refine T.seq ?_
         refine T.region ?_
         refine TL.freeze (r := 128) rfl (fun _ h => h) ?_
         refine TL.as (pI 0) ?_
         refine TL.nil ?_
         refine T.block ?_
         refine T.loop (ι := Nat) (fun xx_ => { tm := [(0, (.one (.d (.ints .i64 h)))), (7, (.one (.row 41 []))), (14, (.one (.row 1127 []))), (16, (pI (xx_ : Int))), (15, (.one (.d (.ints .i64 (vN h (wN b 48) xx_)))))], rows := [(41, (3, (.ints .i64 (wN b 48)))), (1127, (3, (.ints .i64 shaK)))], boxes := [] }) (fun xx_ => xx_ ≤ 64) (fun xx_ => 64 - xx_) 0 ?_ ?_ ?_
         · refine Env.le_mk ⟨rfl, rfl, rfl, ?_, ?_, trivial⟩ ⟨?_, rfl, trivial⟩ trivial <;> (first | exact congrArg (fun x => some (_, D.ints .i64 (wN b x))) (show i = 48 by omega) | rfl | (refine congrArg (fun x => some (_, D.ints .i64 x)) ?_; first | rfl | fail) | (refine congrArg (fun n => PV.one (.d (.int .i64 n))) ?_; first | rfl | omega | (simp; done)))
         · exact Nat.zero_le _
         ·
          intro i hx
          try dsimp only at hx ⊢
          have hl_ := wN_len b 48
          have hvl_ := vN_len (h := h) (w := wN b 48) (by omega) i
          have hkl_ : shaK.length = 64 := rfl
          refine T.seq ?_
          refine T.seq ?_
          refine T.region ?_
          refine TL.mv (pI (i : Int)) ?_
          refine TL.c (Step.bin rfl rfl (lt_ok rfl) rfl rfl (Bin.lss (k := .i64) (a := (i : Int)) (b := 64))) ?_
          refine TL.nil ?_
          refine T.cond (b := decide ((i : Int) < 64)) rfl (fun h8 => ?_) (fun h8 => ?_)
          ·
           replace h8 := of_decide_eq_true h8
           refine T.skip ?_
           refine T.seq ?_
           refine T.block ?_
           refine T.seq ?_
           refine T.region ?_
           refine TL.mv (.one (.d (.ints .i64 (vN h (wN b 48) i)))) ?_
           refine TL.c (Step.index (e := 3) (z := 1) (i := 4) rfl rfl (lt_ok rfl) (by kernel_rfl) rfl rfl rfl (lt_ok rfl) rfl (by first | omega | (simp; omega) | (simp [w16_len, wN_len]; omega)) (by simp only [D.size]; first | omega | (simp; omega) | (simp [w16_len, wN_len]; omega))) ?_
           refine TL.c (Step.load (e := (.int .i64 ((vN h (wN b 48) i).getD 4 0))) rfl rfl (lt_ok rfl) (by kernel_rfl) rfl rfl) ?_
           refine TL.as (pI ((vN h (wN b 48) i).getD 4 0)) ?_
           refine TL.nil ?_
           refine T.seq ?_
           refine T.region ?_
           refine TL.mv (.one (.d (.ints .i64 (vN h (wN b 48) i)))) ?_
           refine TL.c (Step.index (e := 3) (z := 1) (i := 0) rfl rfl (lt_ok rfl) (by kernel_rfl) rfl rfl rfl (lt_ok rfl) rfl (by first | omega | (simp; omega) | (simp [w16_len, wN_len]; omega)) (by simp only [D.size]; first | omega | (simp; omega) | (simp [w16_len, wN_len]; omega))) ?_
           refine TL.c (Step.load (e := (.int .i64 ((vN h (wN b 48) i).getD 0 0))) rfl rfl (lt_ok rfl) (by kernel_rfl) rfl rfl) ?_
           refine TL.as (pI ((vN h (wN b 48) i).getD 0 0)) ?_
           refine TL.nil ?_
           refine T.seq ?_
           refine T.draw [⟨141, (.one (.d (.ints .i64 (vN h (wN b 48) i)))), []⟩, ⟨142, (.one (.eptr (.ints .i64 (vN h (wN b 48) i)) 7 0)), []⟩, ⟨143, (pI ((vN h (wN b 48) i).getD 7 0)), []⟩, ⟨144, (pI ((vN h (wN b 48) i).getD 4 0)), []⟩, ⟨145, (pI (turnW ((vN h (wN b 48) i).getD 4 0) 6)), []⟩, ⟨146, (pI ((vN h (wN b 48) i).getD 4 0)), []⟩, ⟨147, (pI (turnW ((vN h (wN b 48) i).getD 4 0) 11)), []⟩, ⟨148, (pI (bxor (turnW ((vN h (wN b 48) i).getD 4 0) 6) (turnW ((vN h (wN b 48) i).getD 4 0) 11))), []⟩, ⟨149, (pI ((vN h (wN b 48) i).getD 4 0)), []⟩, ⟨150, (pI (turnW ((vN h (wN b 48) i).getD 4 0) 25)), []⟩, ⟨151, (pI (bxor (bxor (turnW ((vN h (wN b 48) i).getD 4 0) 6) (turnW ((vN h (wN b 48) i).getD 4 0) 11)) (turnW ((vN h (wN b 48) i).getD 4 0) 25))), []⟩, ⟨152, (pI (wadd ((vN h (wN b 48) i).getD 7 0) (bxor (bxor (turnW ((vN h (wN b 48) i).getD 4 0) 6) (turnW ((vN h (wN b 48) i).getD 4 0) 11)) (turnW ((vN h (wN b 48) i).getD 4 0) 25)))), []⟩, ⟨153, (pI ((vN h (wN b 48) i).getD 4 0)), []⟩, ⟨154, (.one (.d (.ints .i64 (vN h (wN b 48) i)))), []⟩, ⟨155, (.one (.eptr (.ints .i64 (vN h (wN b 48) i)) 5 0)), []⟩, ⟨156, (pI ((vN h (wN b 48) i).getD 5 0)), []⟩, ⟨157, (pI (band ((vN h (wN b 48) i).getD 4 0) ((vN h (wN b 48) i).getD 5 0))), []⟩, ⟨158, (pI ((vN h (wN b 48) i).getD 4 0)), []⟩, ⟨159, (pI (bxor 4294967295 ((vN h (wN b 48) i).getD 4 0))), []⟩, ⟨160, (.one (.d (.ints .i64 (vN h (wN b 48) i)))), []⟩, ⟨161, (.one (.eptr (.ints .i64 (vN h (wN b 48) i)) 6 0)), []⟩, ⟨162, (pI ((vN h (wN b 48) i).getD 6 0)), []⟩, ⟨163, (pI (band (bxor 4294967295 ((vN h (wN b 48) i).getD 4 0)) ((vN h (wN b 48) i).getD 6 0))), []⟩, ⟨164, (pI (bxor (band ((vN h (wN b 48) i).getD 4 0) ((vN h (wN b 48) i).getD 5 0)) (band (bxor 4294967295 ((vN h (wN b 48) i).getD 4 0)) ((vN h (wN b 48) i).getD 6 0)))), []⟩, ⟨165, (pI (wadd (wadd ((vN h (wN b 48) i).getD 7 0) (bxor (bxor (turnW ((vN h (wN b 48) i).getD 4 0) 6) (turnW ((vN h (wN b 48) i).getD 4 0) 11)) (turnW ((vN h (wN b 48) i).getD 4 0) 25))) (bxor (band ((vN h (wN b 48) i).getD 4 0) ((vN h (wN b 48) i).getD 5 0)) (band (bxor 4294967295 ((vN h (wN b 48) i).getD 4 0)) ((vN h (wN b 48) i).getD 6 0))))), []⟩, ⟨166, (.one (.row 1127 [])), []⟩, ⟨167, (pI (i : Int)), []⟩, ⟨168, (.one (.rptr 1127 [] i 0)), []⟩, ⟨169, (pI (shaK.getD i 0)), []⟩, ⟨170, (pI (wadd (wadd (wadd ((vN h (wN b 48) i).getD 7 0) (bxor (bxor (turnW ((vN h (wN b 48) i).getD 4 0) 6) (turnW ((vN h (wN b 48) i).getD 4 0) 11)) (turnW ((vN h (wN b 48) i).getD 4 0) 25))) (bxor (band ((vN h (wN b 48) i).getD 4 0) ((vN h (wN b 48) i).getD 5 0)) (band (bxor 4294967295 ((vN h (wN b 48) i).getD 4 0)) ((vN h (wN b 48) i).getD 6 0)))) (shaK.getD i 0))), []⟩, ⟨171, (.one (.row 41 [])), []⟩, ⟨172, (pI (i : Int)), []⟩, ⟨173, (.one (.rptr 41 [] i 0)), []⟩, ⟨174, (pI ((wN b 48).getD i 0)), []⟩, ⟨175, (pI (wadd (wadd (wadd (wadd ((vN h (wN b 48) i).getD 7 0) (bxor (bxor (turnW ((vN h (wN b 48) i).getD 4 0) 6) (turnW ((vN h (wN b 48) i).getD 4 0) 11)) (turnW ((vN h (wN b 48) i).getD 4 0) 25))) (bxor (band ((vN h (wN b 48) i).getD 4 0) ((vN h (wN b 48) i).getD 5 0)) (band (bxor 4294967295 ((vN h (wN b 48) i).getD 4 0)) ((vN h (wN b 48) i).getD 6 0)))) (shaK.getD i 0)) ((wN b 48).getD i 0))), []⟩, ⟨19, (pI (wadd (wadd (wadd (wadd ((vN h (wN b 48) i).getD 7 0) (bxor (bxor (turnW ((vN h (wN b 48) i).getD 4 0) 6) (turnW ((vN h (wN b 48) i).getD 4 0) 11)) (turnW ((vN h (wN b 48) i).getD 4 0) 25))) (bxor (band ((vN h (wN b 48) i).getD 4 0) ((vN h (wN b 48) i).getD 5 0)) (band (bxor 4294967295 ((vN h (wN b 48) i).getD 4 0)) ((vN h (wN b 48) i).getD 6 0)))) (shaK.getD i 0)) ((wN b 48).getD i 0))), []⟩] (by kernel_rfl) (by kernel_rfl) ?_ ?_
           ·
            refine .cons (fun E A => A.mv 15 141) ?_
            refine .cons (fun E A => OpStep.plain rfl (Step.index (e := 3) (z := 1) (i := 7) (t := 142) rfl rfl (by exact lt_ok rfl) (by kernel_rfl) (A.g 141 rfl) rfl rfl (lt_ok rfl) rfl (by first | omega | (simp; omega) | (simp [w16_len, wN_len]; omega)) (by simp only [D.size]; first | omega | (simp; omega) | (simp [w16_len, wN_len]; omega)))) ?_
            refine .cons (fun E A => OpStep.plain rfl (Step.load (e := (.int .i64 ((vN h (wN b 48) i).getD 7 0))) (t := 143) rfl rfl (by exact lt_ok rfl) (by kernel_rfl) (A.g 142 rfl) rfl)) ?_
            refine .cons (fun E A => A.mv 17 144) ?_
            refine .cons (fun E A => OpStep.plain rfl (Step.cd (xs := [.tmp 144, .const (.int .i64 6)]) (ps := [(pI ((vN h (wN b 48) i).getD 4 0)), (pI 6)]) (g := .func 187) false 145 (evs_cons (A.g 144 rfl) (evs_cons rfl (rfl))) (.cons (.one (.d _)) (.cons (.one (.d _)) .nil)) (ok_spec_l04Turn ((vN h (wN b 48) i).getD 4 0) 6 (by first | omega | decide)) (At.freshRows A rfl))) ?_
            refine .cons (fun E A => A.mv 17 146) ?_
            refine .cons (fun E A => OpStep.plain rfl (Step.cd (xs := [.tmp 146, .const (.int .i64 11)]) (ps := [(pI ((vN h (wN b 48) i).getD 4 0)), (pI 11)]) (g := .func 187) false 147 (evs_cons (A.g 146 rfl) (evs_cons rfl (rfl))) (.cons (.one (.d _)) (.cons (.one (.d _)) .nil)) (ok_spec_l04Turn ((vN h (wN b 48) i).getD 4 0) 11 (by first | omega | decide)) (At.freshRows A rfl))) ?_
            refine .cons (fun E A => OpStep.plain rfl (Step.bd (r := .int .i64 (bxor (turnW ((vN h (wN b 48) i).getD 4 0) 6) (turnW ((vN h (wN b 48) i).getD 4 0) 11))) 148 (A.g 145 rfl) (A.g 147 rfl) (Bin.xor (k := .i64) (a := (turnW ((vN h (wN b 48) i).getD 4 0) 6)) (b := (turnW ((vN h (wN b 48) i).getD 4 0) 11)) (rfl)))) ?_
            refine .cons (fun E A => A.mv 17 149) ?_
            refine .cons (fun E A => OpStep.plain rfl (Step.cd (xs := [.tmp 149, .const (.int .i64 25)]) (ps := [(pI ((vN h (wN b 48) i).getD 4 0)), (pI 25)]) (g := .func 187) false 150 (evs_cons (A.g 149 rfl) (evs_cons rfl (rfl))) (.cons (.one (.d _)) (.cons (.one (.d _)) .nil)) (ok_spec_l04Turn ((vN h (wN b 48) i).getD 4 0) 25 (by first | omega | decide)) (At.freshRows A rfl))) ?_
            refine .cons (fun E A => OpStep.plain rfl (Step.bd (r := .int .i64 (bxor (bxor (turnW ((vN h (wN b 48) i).getD 4 0) 6) (turnW ((vN h (wN b 48) i).getD 4 0) 11)) (turnW ((vN h (wN b 48) i).getD 4 0) 25))) 151 (A.g 148 rfl) (A.g 150 rfl) (Bin.xor (k := .i64) (a := (bxor (turnW ((vN h (wN b 48) i).getD 4 0) 6) (turnW ((vN h (wN b 48) i).getD 4 0) 11))) (b := (turnW ((vN h (wN b 48) i).getD 4 0) 25)) (rfl)))) ?_
            refine .cons (fun E A => OpStep.plain rfl (Step.bd (r := .int .i64 (wadd ((vN h (wN b 48) i).getD 7 0) (bxor (bxor (turnW ((vN h (wN b 48) i).getD 4 0) 6) (turnW ((vN h (wN b 48) i).getD 4 0) 11)) (turnW ((vN h (wN b 48) i).getD 4 0) 25)))) 152 (A.g 143 rfl) (A.g 151 rfl) (Bin.add (k := .i64) (a := ((vN h (wN b 48) i).getD 7 0)) (b := (bxor (bxor (turnW ((vN h (wN b 48) i).getD 4 0) 6) (turnW ((vN h (wN b 48) i).getD 4 0) 11)) (turnW ((vN h (wN b 48) i).getD 4 0) 25))) (rfl)))) ?_
            refine .cons (fun E A => A.mv 17 153) ?_
            refine .cons (fun E A => A.mv 15 154) ?_
            refine .cons (fun E A => OpStep.plain rfl (Step.index (e := 3) (z := 1) (i := 5) (t := 155) rfl rfl (by exact lt_ok rfl) (by kernel_rfl) (A.g 154 rfl) rfl rfl (lt_ok rfl) rfl (by first | omega | (simp; omega) | (simp [w16_len, wN_len]; omega)) (by simp only [D.size]; first | omega | (simp; omega) | (simp [w16_len, wN_len]; omega)))) ?_
            refine .cons (fun E A => OpStep.plain rfl (Step.load (e := (.int .i64 ((vN h (wN b 48) i).getD 5 0))) (t := 156) rfl rfl (by exact lt_ok rfl) (by kernel_rfl) (A.g 155 rfl) rfl)) ?_
            refine .cons (fun E A => OpStep.plain rfl (Step.bd (r := .int .i64 (band ((vN h (wN b 48) i).getD 4 0) ((vN h (wN b 48) i).getD 5 0))) 157 (A.g 153 rfl) (A.g 156 rfl) (Bin.and (k := .i64) (a := ((vN h (wN b 48) i).getD 4 0)) (b := ((vN h (wN b 48) i).getD 5 0)) (rfl)))) ?_
            refine .cons (fun E A => A.mv 17 158) ?_
            refine .cons (fun E A => OpStep.plain rfl (Step.bd (r := .int .i64 (bxor 4294967295 ((vN h (wN b 48) i).getD 4 0))) 159 rfl (A.g 158 rfl) (Bin.xor (k := .i64) (a := 4294967295) (b := ((vN h (wN b 48) i).getD 4 0)) (rfl)))) ?_
            refine .cons (fun E A => A.mv 15 160) ?_
            refine .cons (fun E A => OpStep.plain rfl (Step.index (e := 3) (z := 1) (i := 6) (t := 161) rfl rfl (by exact lt_ok rfl) (by kernel_rfl) (A.g 160 rfl) rfl rfl (lt_ok rfl) rfl (by first | omega | (simp; omega) | (simp [w16_len, wN_len]; omega)) (by simp only [D.size]; first | omega | (simp; omega) | (simp [w16_len, wN_len]; omega)))) ?_
            refine .cons (fun E A => OpStep.plain rfl (Step.load (e := (.int .i64 ((vN h (wN b 48) i).getD 6 0))) (t := 162) rfl rfl (by exact lt_ok rfl) (by kernel_rfl) (A.g 161 rfl) rfl)) ?_
            refine .cons (fun E A => OpStep.plain rfl (Step.bd (r := .int .i64 (band (bxor 4294967295 ((vN h (wN b 48) i).getD 4 0)) ((vN h (wN b 48) i).getD 6 0))) 163 (A.g 159 rfl) (A.g 162 rfl) (Bin.and (k := .i64) (a := (bxor 4294967295 ((vN h (wN b 48) i).getD 4 0))) (b := ((vN h (wN b 48) i).getD 6 0)) (rfl)))) ?_
            refine .cons (fun E A => OpStep.plain rfl (Step.bd (r := .int .i64 (bxor (band ((vN h (wN b 48) i).getD 4 0) ((vN h (wN b 48) i).getD 5 0)) (band (bxor 4294967295 ((vN h (wN b 48) i).getD 4 0)) ((vN h (wN b 48) i).getD 6 0)))) 164 (A.g 157 rfl) (A.g 163 rfl) (Bin.xor (k := .i64) (a := (band ((vN h (wN b 48) i).getD 4 0) ((vN h (wN b 48) i).getD 5 0))) (b := (band (bxor 4294967295 ((vN h (wN b 48) i).getD 4 0)) ((vN h (wN b 48) i).getD 6 0))) (rfl)))) ?_
            refine .cons (fun E A => OpStep.plain rfl (Step.bd (r := .int .i64 (wadd (wadd ((vN h (wN b 48) i).getD 7 0) (bxor (bxor (turnW ((vN h (wN b 48) i).getD 4 0) 6) (turnW ((vN h (wN b 48) i).getD 4 0) 11)) (turnW ((vN h (wN b 48) i).getD 4 0) 25))) (bxor (band ((vN h (wN b 48) i).getD 4 0) ((vN h (wN b 48) i).getD 5 0)) (band (bxor 4294967295 ((vN h (wN b 48) i).getD 4 0)) ((vN h (wN b 48) i).getD 6 0))))) 165 (A.g 152 rfl) (A.g 164 rfl) (Bin.add (k := .i64) (a := (wadd ((vN h (wN b 48) i).getD 7 0) (bxor (bxor (turnW ((vN h (wN b 48) i).getD 4 0) 6) (turnW ((vN h (wN b 48) i).getD 4 0) 11)) (turnW ((vN h (wN b 48) i).getD 4 0) 25)))) (b := (bxor (band ((vN h (wN b 48) i).getD 4 0) ((vN h (wN b 48) i).getD 5 0)) (band (bxor 4294967295 ((vN h (wN b 48) i).getD 4 0)) ((vN h (wN b 48) i).getD 6 0)))) (rfl)))) ?_
            refine .cons (fun E A => A.mv 14 166) ?_
            refine .cons (fun E A => A.mv 16 167) ?_
            refine .cons (fun E A => OpStep.plain rfl (Step.index_row (e := 3) (z := 1) (i := (i : Int)) (t := 168) rfl rfl (by exact lt_ok rfl) (by kernel_rfl) (A.g 166 rfl) (by exact (A.row 1127 (by kernel_rfl)).trans rfl) rfl rfl (lt_ok rfl) (A.g 167 rfl) (by first | omega | (simp; omega) | (simp [w16_len, wN_len]; omega)) (by simp only [D.at_, D.cell, D.size]; first | omega | (simp; omega) | (simp [w16_len, wN_len]; omega)))) ?_
            refine .cons (fun E A => OpStep.plain rfl (Step.load_row (c := cI (shaK.getD i 0)) (t := 169) rfl rfl (by exact lt_ok rfl) (by kernel_rfl) (A.g 168 rfl) (by exact (A.row 1127 (by kernel_rfl)).trans rfl) rfl)) ?_
            refine .cons (fun E A => OpStep.plain rfl (Step.bd (r := .int .i64 (wadd (wadd (wadd ((vN h (wN b 48) i).getD 7 0) (bxor (bxor (turnW ((vN h (wN b 48) i).getD 4 0) 6) (turnW ((vN h (wN b 48) i).getD 4 0) 11)) (turnW ((vN h (wN b 48) i).getD 4 0) 25))) (bxor (band ((vN h (wN b 48) i).getD 4 0) ((vN h (wN b 48) i).getD 5 0)) (band (bxor 4294967295 ((vN h (wN b 48) i).getD 4 0)) ((vN h (wN b 48) i).getD 6 0)))) (shaK.getD i 0))) 170 (A.g 165 rfl) (A.g 169 rfl) (Bin.add (k := .i64) (a := (wadd (wadd ((vN h (wN b 48) i).getD 7 0) (bxor (bxor (turnW ((vN h (wN b 48) i).getD 4 0) 6) (turnW ((vN h (wN b 48) i).getD 4 0) 11)) (turnW ((vN h (wN b 48) i).getD 4 0) 25))) (bxor (band ((vN h (wN b 48) i).getD 4 0) ((vN h (wN b 48) i).getD 5 0)) (band (bxor 4294967295 ((vN h (wN b 48) i).getD 4 0)) ((vN h (wN b 48) i).getD 6 0))))) (b := (shaK.getD i 0)) (rfl)))) ?_
            refine .cons (fun E A => A.mv 7 171) ?_
            refine .cons (fun E A => A.mv 16 172) ?_
            refine .cons (fun E A => OpStep.plain rfl (Step.index_row (e := 3) (z := 1) (i := (i : Int)) (t := 173) rfl rfl (by exact lt_ok rfl) (by kernel_rfl) (A.g 171 rfl) (by exact (A.row 41 (by kernel_rfl)).trans rfl) rfl rfl (lt_ok rfl) (A.g 172 rfl) (by first | omega | (simp; omega) | (simp [w16_len, wN_len]; omega)) (by simp only [D.at_, D.cell, D.size]; first | omega | (simp; omega) | (simp [w16_len, wN_len]; omega)))) ?_
            refine .cons (fun E A => OpStep.plain rfl (Step.load_row (c := cI ((wN b 48).getD i 0)) (t := 174) rfl rfl (by exact lt_ok rfl) (by kernel_rfl) (A.g 173 rfl) (by exact (A.row 41 (by kernel_rfl)).trans rfl) rfl)) ?_
            refine .cons (fun E A => OpStep.plain rfl (Step.bd (r := .int .i64 (wadd (wadd (wadd (wadd ((vN h (wN b 48) i).getD 7 0) (bxor (bxor (turnW ((vN h (wN b 48) i).getD 4 0) 6) (turnW ((vN h (wN b 48) i).getD 4 0) 11)) (turnW ((vN h (wN b 48) i).getD 4 0) 25))) (bxor (band ((vN h (wN b 48) i).getD 4 0) ((vN h (wN b 48) i).getD 5 0)) (band (bxor 4294967295 ((vN h (wN b 48) i).getD 4 0)) ((vN h (wN b 48) i).getD 6 0)))) (shaK.getD i 0)) ((wN b 48).getD i 0))) 175 (A.g 170 rfl) (A.g 174 rfl) (Bin.add (k := .i64) (a := (wadd (wadd (wadd ((vN h (wN b 48) i).getD 7 0) (bxor (bxor (turnW ((vN h (wN b 48) i).getD 4 0) 6) (turnW ((vN h (wN b 48) i).getD 4 0) 11)) (turnW ((vN h (wN b 48) i).getD 4 0) 25))) (bxor (band ((vN h (wN b 48) i).getD 4 0) ((vN h (wN b 48) i).getD 5 0)) (band (bxor 4294967295 ((vN h (wN b 48) i).getD 4 0)) ((vN h (wN b 48) i).getD 6 0)))) (shaK.getD i 0))) (b := ((wN b 48).getD i 0)) (rfl)))) ?_
            refine .cons (fun E A => A.as 175 19) ?_
            exact .nil _ _
           refine TL.nil ?_
           refine T.seq ?_
           refine T.draw [⟨176, (pI ((vN h (wN b 48) i).getD 0 0)), []⟩, ⟨177, (pI (turnW ((vN h (wN b 48) i).getD 0 0) 2)), []⟩, ⟨178, (pI ((vN h (wN b 48) i).getD 0 0)), []⟩, ⟨179, (pI (turnW ((vN h (wN b 48) i).getD 0 0) 13)), []⟩, ⟨180, (pI (bxor (turnW ((vN h (wN b 48) i).getD 0 0) 2) (turnW ((vN h (wN b 48) i).getD 0 0) 13))), []⟩, ⟨181, (pI ((vN h (wN b 48) i).getD 0 0)), []⟩, ⟨182, (pI (turnW ((vN h (wN b 48) i).getD 0 0) 22)), []⟩, ⟨183, (pI (bxor (bxor (turnW ((vN h (wN b 48) i).getD 0 0) 2) (turnW ((vN h (wN b 48) i).getD 0 0) 13)) (turnW ((vN h (wN b 48) i).getD 0 0) 22))), []⟩, ⟨184, (pI ((vN h (wN b 48) i).getD 0 0)), []⟩, ⟨185, (.one (.d (.ints .i64 (vN h (wN b 48) i)))), []⟩, ⟨186, (.one (.eptr (.ints .i64 (vN h (wN b 48) i)) 1 0)), []⟩, ⟨187, (pI ((vN h (wN b 48) i).getD 1 0)), []⟩, ⟨188, (pI (band ((vN h (wN b 48) i).getD 0 0) ((vN h (wN b 48) i).getD 1 0))), []⟩, ⟨189, (pI ((vN h (wN b 48) i).getD 0 0)), []⟩, ⟨190, (.one (.d (.ints .i64 (vN h (wN b 48) i)))), []⟩, ⟨191, (.one (.eptr (.ints .i64 (vN h (wN b 48) i)) 2 0)), []⟩, ⟨192, (pI ((vN h (wN b 48) i).getD 2 0)), []⟩, ⟨193, (pI (band ((vN h (wN b 48) i).getD 0 0) ((vN h (wN b 48) i).getD 2 0))), []⟩, ⟨194, (pI (bxor (band ((vN h (wN b 48) i).getD 0 0) ((vN h (wN b 48) i).getD 1 0)) (band ((vN h (wN b 48) i).getD 0 0) ((vN h (wN b 48) i).getD 2 0)))), []⟩, ⟨195, (.one (.d (.ints .i64 (vN h (wN b 48) i)))), []⟩, ⟨196, (.one (.eptr (.ints .i64 (vN h (wN b 48) i)) 1 0)), []⟩, ⟨197, (pI ((vN h (wN b 48) i).getD 1 0)), []⟩, ⟨198, (.one (.d (.ints .i64 (vN h (wN b 48) i)))), []⟩, ⟨199, (.one (.eptr (.ints .i64 (vN h (wN b 48) i)) 2 0)), []⟩, ⟨200, (pI ((vN h (wN b 48) i).getD 2 0)), []⟩, ⟨201, (pI (band ((vN h (wN b 48) i).getD 1 0) ((vN h (wN b 48) i).getD 2 0))), []⟩, ⟨202, (pI (bxor (bxor (band ((vN h (wN b 48) i).getD 0 0) ((vN h (wN b 48) i).getD 1 0)) (band ((vN h (wN b 48) i).getD 0 0) ((vN h (wN b 48) i).getD 2 0))) (band ((vN h (wN b 48) i).getD 1 0) ((vN h (wN b 48) i).getD 2 0)))), []⟩, ⟨203, (pI (wadd (bxor (bxor (turnW ((vN h (wN b 48) i).getD 0 0) 2) (turnW ((vN h (wN b 48) i).getD 0 0) 13)) (turnW ((vN h (wN b 48) i).getD 0 0) 22)) (bxor (bxor (band ((vN h (wN b 48) i).getD 0 0) ((vN h (wN b 48) i).getD 1 0)) (band ((vN h (wN b 48) i).getD 0 0) ((vN h (wN b 48) i).getD 2 0))) (band ((vN h (wN b 48) i).getD 1 0) ((vN h (wN b 48) i).getD 2 0))))), []⟩, ⟨20, (pI (wadd (bxor (bxor (turnW ((vN h (wN b 48) i).getD 0 0) 2) (turnW ((vN h (wN b 48) i).getD 0 0) 13)) (turnW ((vN h (wN b 48) i).getD 0 0) 22)) (bxor (bxor (band ((vN h (wN b 48) i).getD 0 0) ((vN h (wN b 48) i).getD 1 0)) (band ((vN h (wN b 48) i).getD 0 0) ((vN h (wN b 48) i).getD 2 0))) (band ((vN h (wN b 48) i).getD 1 0) ((vN h (wN b 48) i).getD 2 0))))), []⟩] (by kernel_rfl) (by kernel_rfl) ?_ ?_
           ·
            refine .cons (fun E A => A.mv 18 176) ?_
            refine .cons (fun E A => OpStep.plain rfl (Step.cd (xs := [.tmp 176, .const (.int .i64 2)]) (ps := [(pI ((vN h (wN b 48) i).getD 0 0)), (pI 2)]) (g := .func 187) false 177 (evs_cons (A.g 176 rfl) (evs_cons rfl (rfl))) (.cons (.one (.d _)) (.cons (.one (.d _)) .nil)) (ok_spec_l04Turn ((vN h (wN b 48) i).getD 0 0) 2 (by first | omega | decide)) (At.freshRows A rfl))) ?_
            refine .cons (fun E A => A.mv 18 178) ?_
            refine .cons (fun E A => OpStep.plain rfl (Step.cd (xs := [.tmp 178, .const (.int .i64 13)]) (ps := [(pI ((vN h (wN b 48) i).getD 0 0)), (pI 13)]) (g := .func 187) false 179 (evs_cons (A.g 178 rfl) (evs_cons rfl (rfl))) (.cons (.one (.d _)) (.cons (.one (.d _)) .nil)) (ok_spec_l04Turn ((vN h (wN b 48) i).getD 0 0) 13 (by first | omega | decide)) (At.freshRows A rfl))) ?_
            refine .cons (fun E A => OpStep.plain rfl (Step.bd (r := .int .i64 (bxor (turnW ((vN h (wN b 48) i).getD 0 0) 2) (turnW ((vN h (wN b 48) i).getD 0 0) 13))) 180 (A.g 177 rfl) (A.g 179 rfl) (Bin.xor (k := .i64) (a := (turnW ((vN h (wN b 48) i).getD 0 0) 2)) (b := (turnW ((vN h (wN b 48) i).getD 0 0) 13)) (rfl)))) ?_
            refine .cons (fun E A => A.mv 18 181) ?_
            refine .cons (fun E A => OpStep.plain rfl (Step.cd (xs := [.tmp 181, .const (.int .i64 22)]) (ps := [(pI ((vN h (wN b 48) i).getD 0 0)), (pI 22)]) (g := .func 187) false 182 (evs_cons (A.g 181 rfl) (evs_cons rfl (rfl))) (.cons (.one (.d _)) (.cons (.one (.d _)) .nil)) (ok_spec_l04Turn ((vN h (wN b 48) i).getD 0 0) 22 (by first | omega | decide)) (At.freshRows A rfl))) ?_
            refine .cons (fun E A => OpStep.plain rfl (Step.bd (r := .int .i64 (bxor (bxor (turnW ((vN h (wN b 48) i).getD 0 0) 2) (turnW ((vN h (wN b 48) i).getD 0 0) 13)) (turnW ((vN h (wN b 48) i).getD 0 0) 22))) 183 (A.g 180 rfl) (A.g 182 rfl) (Bin.xor (k := .i64) (a := (bxor (turnW ((vN h (wN b 48) i).getD 0 0) 2) (turnW ((vN h (wN b 48) i).getD 0 0) 13))) (b := (turnW ((vN h (wN b 48) i).getD 0 0) 22)) (rfl)))) ?_
            refine .cons (fun E A => A.mv 18 184) ?_
            refine .cons (fun E A => A.mv 15 185) ?_
            refine .cons (fun E A => OpStep.plain rfl (Step.index (e := 3) (z := 1) (i := 1) (t := 186) rfl rfl (by exact lt_ok rfl) (by kernel_rfl) (A.g 185 rfl) rfl rfl (lt_ok rfl) rfl (by first | omega | (simp; omega) | (simp [w16_len, wN_len]; omega)) (by simp only [D.size]; first | omega | (simp; omega) | (simp [w16_len, wN_len]; omega)))) ?_
            refine .cons (fun E A => OpStep.plain rfl (Step.load (e := (.int .i64 ((vN h (wN b 48) i).getD 1 0))) (t := 187) rfl rfl (by exact lt_ok rfl) (by kernel_rfl) (A.g 186 rfl) rfl)) ?_
            refine .cons (fun E A => OpStep.plain rfl (Step.bd (r := .int .i64 (band ((vN h (wN b 48) i).getD 0 0) ((vN h (wN b 48) i).getD 1 0))) 188 (A.g 184 rfl) (A.g 187 rfl) (Bin.and (k := .i64) (a := ((vN h (wN b 48) i).getD 0 0)) (b := ((vN h (wN b 48) i).getD 1 0)) (rfl)))) ?_
            refine .cons (fun E A => A.mv 18 189) ?_
            refine .cons (fun E A => A.mv 15 190) ?_
            refine .cons (fun E A => OpStep.plain rfl (Step.index (e := 3) (z := 1) (i := 2) (t := 191) rfl rfl (by exact lt_ok rfl) (by kernel_rfl) (A.g 190 rfl) rfl rfl (lt_ok rfl) rfl (by first | omega | (simp; omega) | (simp [w16_len, wN_len]; omega)) (by simp only [D.size]; first | omega | (simp; omega) | (simp [w16_len, wN_len]; omega)))) ?_
            refine .cons (fun E A => OpStep.plain rfl (Step.load (e := (.int .i64 ((vN h (wN b 48) i).getD 2 0))) (t := 192) rfl rfl (by exact lt_ok rfl) (by kernel_rfl) (A.g 191 rfl) rfl)) ?_
            refine .cons (fun E A => OpStep.plain rfl (Step.bd (r := .int .i64 (band ((vN h (wN b 48) i).getD 0 0) ((vN h (wN b 48) i).getD 2 0))) 193 (A.g 189 rfl) (A.g 192 rfl) (Bin.and (k := .i64) (a := ((vN h (wN b 48) i).getD 0 0)) (b := ((vN h (wN b 48) i).getD 2 0)) (rfl)))) ?_
            refine .cons (fun E A => OpStep.plain rfl (Step.bd (r := .int .i64 (bxor (band ((vN h (wN b 48) i).getD 0 0) ((vN h (wN b 48) i).getD 1 0)) (band ((vN h (wN b 48) i).getD 0 0) ((vN h (wN b 48) i).getD 2 0)))) 194 (A.g 188 rfl) (A.g 193 rfl) (Bin.xor (k := .i64) (a := (band ((vN h (wN b 48) i).getD 0 0) ((vN h (wN b 48) i).getD 1 0))) (b := (band ((vN h (wN b 48) i).getD 0 0) ((vN h (wN b 48) i).getD 2 0))) (rfl)))) ?_
            refine .cons (fun E A => A.mv 15 195) ?_
            refine .cons (fun E A => OpStep.plain rfl (Step.index (e := 3) (z := 1) (i := 1) (t := 196) rfl rfl (by exact lt_ok rfl) (by kernel_rfl) (A.g 195 rfl) rfl rfl (lt_ok rfl) rfl (by first | omega | (simp; omega) | (simp [w16_len, wN_len]; omega)) (by simp only [D.size]; first | omega | (simp; omega) | (simp [w16_len, wN_len]; omega)))) ?_
            refine .cons (fun E A => OpStep.plain rfl (Step.load (e := (.int .i64 ((vN h (wN b 48) i).getD 1 0))) (t := 197) rfl rfl (by exact lt_ok rfl) (by kernel_rfl) (A.g 196 rfl) rfl)) ?_
            refine .cons (fun E A => A.mv 15 198) ?_
            refine .cons (fun E A => OpStep.plain rfl (Step.index (e := 3) (z := 1) (i := 2) (t := 199) rfl rfl (by exact lt_ok rfl) (by kernel_rfl) (A.g 198 rfl) rfl rfl (lt_ok rfl) rfl (by first | omega | (simp; omega) | (simp [w16_len, wN_len]; omega)) (by simp only [D.size]; first | omega | (simp; omega) | (simp [w16_len, wN_len]; omega)))) ?_
            refine .cons (fun E A => OpStep.plain rfl (Step.load (e := (.int .i64 ((vN h (wN b 48) i).getD 2 0))) (t := 200) rfl rfl (by exact lt_ok rfl) (by kernel_rfl) (A.g 199 rfl) rfl)) ?_
            refine .cons (fun E A => OpStep.plain rfl (Step.bd (r := .int .i64 (band ((vN h (wN b 48) i).getD 1 0) ((vN h (wN b 48) i).getD 2 0))) 201 (A.g 197 rfl) (A.g 200 rfl) (Bin.and (k := .i64) (a := ((vN h (wN b 48) i).getD 1 0)) (b := ((vN h (wN b 48) i).getD 2 0)) (rfl)))) ?_
            refine .cons (fun E A => OpStep.plain rfl (Step.bd (r := .int .i64 (bxor (bxor (band ((vN h (wN b 48) i).getD 0 0) ((vN h (wN b 48) i).getD 1 0)) (band ((vN h (wN b 48) i).getD 0 0) ((vN h (wN b 48) i).getD 2 0))) (band ((vN h (wN b 48) i).getD 1 0) ((vN h (wN b 48) i).getD 2 0)))) 202 (A.g 194 rfl) (A.g 201 rfl) (Bin.xor (k := .i64) (a := (bxor (band ((vN h (wN b 48) i).getD 0 0) ((vN h (wN b 48) i).getD 1 0)) (band ((vN h (wN b 48) i).getD 0 0) ((vN h (wN b 48) i).getD 2 0)))) (b := (band ((vN h (wN b 48) i).getD 1 0) ((vN h (wN b 48) i).getD 2 0))) (rfl)))) ?_
            refine .cons (fun E A => OpStep.plain rfl (Step.bd (r := .int .i64 (wadd (bxor (bxor (turnW ((vN h (wN b 48) i).getD 0 0) 2) (turnW ((vN h (wN b 48) i).getD 0 0) 13)) (turnW ((vN h (wN b 48) i).getD 0 0) 22)) (bxor (bxor (band ((vN h (wN b 48) i).getD 0 0) ((vN h (wN b 48) i).getD 1 0)) (band ((vN h (wN b 48) i).getD 0 0) ((vN h (wN b 48) i).getD 2 0))) (band ((vN h (wN b 48) i).getD 1 0) ((vN h (wN b 48) i).getD 2 0))))) 203 (A.g 183 rfl) (A.g 202 rfl) (Bin.add (k := .i64) (a := (bxor (bxor (turnW ((vN h (wN b 48) i).getD 0 0) 2) (turnW ((vN h (wN b 48) i).getD 0 0) 13)) (turnW ((vN h (wN b 48) i).getD 0 0) 22))) (b := (bxor (bxor (band ((vN h (wN b 48) i).getD 0 0) ((vN h (wN b 48) i).getD 1 0)) (band ((vN h (wN b 48) i).getD 0 0) ((vN h (wN b 48) i).getD 2 0))) (band ((vN h (wN b 48) i).getD 1 0) ((vN h (wN b 48) i).getD 2 0)))) (rfl)))) ?_
            refine .cons (fun E A => A.as 203 20) ?_
            exact .nil _ _
           refine TL.nil ?_
           refine T.weaken (E' := { tm := [(0, (.one (.d (.ints .i64 h)))), (7, (.one (.row 41 []))), (14, (.one (.row 1127 []))), (16, (pI (i : Int))), (15, (.one (.d (.ints .i64 (vN h (wN b 48) i))))), (19, (pI (wadd (wadd (wadd (wadd ((vN h (wN b 48) i).getD 7 0) (bxor (bxor (turnW ((vN h (wN b 48) i).getD 4 0) 6) (turnW ((vN h (wN b 48) i).getD 4 0) 11)) (turnW ((vN h (wN b 48) i).getD 4 0) 25))) (bxor (band ((vN h (wN b 48) i).getD 4 0) ((vN h (wN b 48) i).getD 5 0)) (band (bxor 4294967295 ((vN h (wN b 48) i).getD 4 0)) ((vN h (wN b 48) i).getD 6 0)))) (shaK.getD i 0)) ((wN b 48).getD i 0)))), (20, (pI (wadd (bxor (bxor (turnW ((vN h (wN b 48) i).getD 0 0) 2) (turnW ((vN h (wN b 48) i).getD 0 0) 13)) (turnW ((vN h (wN b 48) i).getD 0 0) 22)) (bxor (bxor (band ((vN h (wN b 48) i).getD 0 0) ((vN h (wN b 48) i).getD 1 0)) (band ((vN h (wN b 48) i).getD 0 0) ((vN h (wN b 48) i).getD 2 0))) (band ((vN h (wN b 48) i).getD 1 0) ((vN h (wN b 48) i).getD 2 0))))))], rows := [(41, (3, (.ints .i64 (wN b 48)))), (1127, (3, (.ints .i64 shaK)))], boxes := [] }) (Env.le_mk ⟨by kernel_rfl, by kernel_rfl, by kernel_rfl, by kernel_rfl, by kernel_rfl, by kernel_rfl, by kernel_rfl, trivial⟩ ⟨by kernel_rfl, by kernel_rfl, trivial⟩ trivial) ?_
           refine T.draw [⟨204, (pI (wadd (wadd (wadd (wadd ((vN h (wN b 48) i).getD 7 0) (bxor (bxor (turnW ((vN h (wN b 48) i).getD 4 0) 6) (turnW ((vN h (wN b 48) i).getD 4 0) 11)) (turnW ((vN h (wN b 48) i).getD 4 0) 25))) (bxor (band ((vN h (wN b 48) i).getD 4 0) ((vN h (wN b 48) i).getD 5 0)) (band (bxor 4294967295 ((vN h (wN b 48) i).getD 4 0)) ((vN h (wN b 48) i).getD 6 0)))) (shaK.getD i 0)) ((wN b 48).getD i 0))), []⟩, ⟨205, (pI (wadd (bxor (bxor (turnW ((vN h (wN b 48) i).getD 0 0) 2) (turnW ((vN h (wN b 48) i).getD 0 0) 13)) (turnW ((vN h (wN b 48) i).getD 0 0) 22)) (bxor (bxor (band ((vN h (wN b 48) i).getD 0 0) ((vN h (wN b 48) i).getD 1 0)) (band ((vN h (wN b 48) i).getD 0 0) ((vN h (wN b 48) i).getD 2 0))) (band ((vN h (wN b 48) i).getD 1 0) ((vN h (wN b 48) i).getD 2 0))))), []⟩, ⟨206, (pI (wadd (wadd (wadd (wadd (wadd ((vN h (wN b 48) i).getD 7 0) (bxor (bxor (turnW ((vN h (wN b 48) i).getD 4 0) 6) (turnW ((vN h (wN b 48) i).getD 4 0) 11)) (turnW ((vN h (wN b 48) i).getD 4 0) 25))) (bxor (band ((vN h (wN b 48) i).getD 4 0) ((vN h (wN b 48) i).getD 5 0)) (band (bxor 4294967295 ((vN h (wN b 48) i).getD 4 0)) ((vN h (wN b 48) i).getD 6 0)))) (shaK.getD i 0)) ((wN b 48).getD i 0)) (wadd (bxor (bxor (turnW ((vN h (wN b 48) i).getD 0 0) 2) (turnW ((vN h (wN b 48) i).getD 0 0) 13)) (turnW ((vN h (wN b 48) i).getD 0 0) 22)) (bxor (bxor (band ((vN h (wN b 48) i).getD 0 0) ((vN h (wN b 48) i).getD 1 0)) (band ((vN h (wN b 48) i).getD 0 0) ((vN h (wN b 48) i).getD 2 0))) (band ((vN h (wN b 48) i).getD 1 0) ((vN h (wN b 48) i).getD 2 0)))))), []⟩, ⟨207, (pI (band (wadd (wadd (wadd (wadd (wadd ((vN h (wN b 48) i).getD 7 0) (bxor (bxor (turnW ((vN h (wN b 48) i).getD 4 0) 6) (turnW ((vN h (wN b 48) i).getD 4 0) 11)) (turnW ((vN h (wN b 48) i).getD 4 0) 25))) (bxor (band ((vN h (wN b 48) i).getD 4 0) ((vN h (wN b 48) i).getD 5 0)) (band (bxor 4294967295 ((vN h (wN b 48) i).getD 4 0)) ((vN h (wN b 48) i).getD 6 0)))) (shaK.getD i 0)) ((wN b 48).getD i 0)) (wadd (bxor (bxor (turnW ((vN h (wN b 48) i).getD 0 0) 2) (turnW ((vN h (wN b 48) i).getD 0 0) 13)) (turnW ((vN h (wN b 48) i).getD 0 0) 22)) (bxor (bxor (band ((vN h (wN b 48) i).getD 0 0) ((vN h (wN b 48) i).getD 1 0)) (band ((vN h (wN b 48) i).getD 0 0) ((vN h (wN b 48) i).getD 2 0))) (band ((vN h (wN b 48) i).getD 1 0) ((vN h (wN b 48) i).getD 2 0))))) 4294967295)), []⟩, ⟨208, (.one (.d (.ints .i64 (vN h (wN b 48) i)))), []⟩, ⟨209, (.one (.eptr (.ints .i64 (vN h (wN b 48) i)) 0 0)), []⟩, ⟨210, (pI ((vN h (wN b 48) i).getD 0 0)), []⟩, ⟨211, (.one (.d (.ints .i64 (vN h (wN b 48) i)))), []⟩, ⟨212, (.one (.eptr (.ints .i64 (vN h (wN b 48) i)) 1 0)), []⟩, ⟨213, (pI ((vN h (wN b 48) i).getD 1 0)), []⟩, ⟨214, (.one (.d (.ints .i64 (vN h (wN b 48) i)))), []⟩, ⟨215, (.one (.eptr (.ints .i64 (vN h (wN b 48) i)) 2 0)), []⟩, ⟨216, (pI ((vN h (wN b 48) i).getD 2 0)), []⟩, ⟨217, (.one (.d (.ints .i64 (vN h (wN b 48) i)))), []⟩, ⟨218, (.one (.eptr (.ints .i64 (vN h (wN b 48) i)) 3 0)), []⟩, ⟨219, (pI ((vN h (wN b 48) i).getD 3 0)), []⟩, ⟨220, (pI (wadd (wadd (wadd (wadd ((vN h (wN b 48) i).getD 7 0) (bxor (bxor (turnW ((vN h (wN b 48) i).getD 4 0) 6) (turnW ((vN h (wN b 48) i).getD 4 0) 11)) (turnW ((vN h (wN b 48) i).getD 4 0) 25))) (bxor (band ((vN h (wN b 48) i).getD 4 0) ((vN h (wN b 48) i).getD 5 0)) (band (bxor 4294967295 ((vN h (wN b 48) i).getD 4 0)) ((vN h (wN b 48) i).getD 6 0)))) (shaK.getD i 0)) ((wN b 48).getD i 0))), []⟩, ⟨221, (pI (wadd ((vN h (wN b 48) i).getD 3 0) (wadd (wadd (wadd (wadd ((vN h (wN b 48) i).getD 7 0) (bxor (bxor (turnW ((vN h (wN b 48) i).getD 4 0) 6) (turnW ((vN h (wN b 48) i).getD 4 0) 11)) (turnW ((vN h (wN b 48) i).getD 4 0) 25))) (bxor (band ((vN h (wN b 48) i).getD 4 0) ((vN h (wN b 48) i).getD 5 0)) (band (bxor 4294967295 ((vN h (wN b 48) i).getD 4 0)) ((vN h (wN b 48) i).getD 6 0)))) (shaK.getD i 0)) ((wN b 48).getD i 0)))), []⟩, ⟨222, (pI (band (wadd ((vN h (wN b 48) i).getD 3 0) (wadd (wadd (wadd (wadd ((vN h (wN b 48) i).getD 7 0) (bxor (bxor (turnW ((vN h (wN b 48) i).getD 4 0) 6) (turnW ((vN h (wN b 48) i).getD 4 0) 11)) (turnW ((vN h (wN b 48) i).getD 4 0) 25))) (bxor (band ((vN h (wN b 48) i).getD 4 0) ((vN h (wN b 48) i).getD 5 0)) (band (bxor 4294967295 ((vN h (wN b 48) i).getD 4 0)) ((vN h (wN b 48) i).getD 6 0)))) (shaK.getD i 0)) ((wN b 48).getD i 0))) 4294967295)), []⟩, ⟨223, (.one (.d (.ints .i64 (vN h (wN b 48) i)))), []⟩, ⟨224, (.one (.eptr (.ints .i64 (vN h (wN b 48) i)) 4 0)), []⟩, ⟨225, (pI ((vN h (wN b 48) i).getD 4 0)), []⟩, ⟨226, (.one (.d (.ints .i64 (vN h (wN b 48) i)))), []⟩, ⟨227, (.one (.eptr (.ints .i64 (vN h (wN b 48) i)) 5 0)), []⟩, ⟨228, (pI ((vN h (wN b 48) i).getD 5 0)), []⟩, ⟨229, (.one (.d (.ints .i64 (vN h (wN b 48) i)))), []⟩, ⟨230, (.one (.eptr (.ints .i64 (vN h (wN b 48) i)) 6 0)), []⟩, ⟨231, (pI ((vN h (wN b 48) i).getD 6 0)), []⟩, ⟨232, (.one (.d (.ints .i64 [band (wadd (wadd (wadd (wadd (wadd ((vN h (wN b 48) i).getD 7 0) (bxor (bxor (turnW ((vN h (wN b 48) i).getD 4 0) 6) (turnW ((vN h (wN b 48) i).getD 4 0) 11)) (turnW ((vN h (wN b 48) i).getD 4 0) 25))) (bxor (band ((vN h (wN b 48) i).getD 4 0) ((vN h (wN b 48) i).getD 5 0)) (band (bxor 4294967295 ((vN h (wN b 48) i).getD 4 0)) ((vN h (wN b 48) i).getD 6 0)))) (shaK.getD i 0)) ((wN b 48).getD i 0)) (wadd (bxor (bxor (turnW ((vN h (wN b 48) i).getD 0 0) 2) (turnW ((vN h (wN b 48) i).getD 0 0) 13)) (turnW ((vN h (wN b 48) i).getD 0 0) 22)) (bxor (bxor (band ((vN h (wN b 48) i).getD 0 0) ((vN h (wN b 48) i).getD 1 0)) (band ((vN h (wN b 48) i).getD 0 0) ((vN h (wN b 48) i).getD 2 0))) (band ((vN h (wN b 48) i).getD 1 0) ((vN h (wN b 48) i).getD 2 0))))) 4294967295, (vN h (wN b 48) i).getD 0 0, (vN h (wN b 48) i).getD 1 0, (vN h (wN b 48) i).getD 2 0, band (wadd ((vN h (wN b 48) i).getD 3 0) (wadd (wadd (wadd (wadd ((vN h (wN b 48) i).getD 7 0) (bxor (bxor (turnW ((vN h (wN b 48) i).getD 4 0) 6) (turnW ((vN h (wN b 48) i).getD 4 0) 11)) (turnW ((vN h (wN b 48) i).getD 4 0) 25))) (bxor (band ((vN h (wN b 48) i).getD 4 0) ((vN h (wN b 48) i).getD 5 0)) (band (bxor 4294967295 ((vN h (wN b 48) i).getD 4 0)) ((vN h (wN b 48) i).getD 6 0)))) (shaK.getD i 0)) ((wN b 48).getD i 0))) 4294967295, (vN h (wN b 48) i).getD 4 0, (vN h (wN b 48) i).getD 5 0, (vN h (wN b 48) i).getD 6 0]))), []⟩] (by kernel_rfl) (by kernel_rfl) ?_ ?_
           ·
            refine .cons (fun E A => A.mv 19 204) ?_
            refine .cons (fun E A => A.mv 20 205) ?_
            refine .cons (fun E A => OpStep.plain rfl (Step.bd (r := .int .i64 (wadd (wadd (wadd (wadd (wadd ((vN h (wN b 48) i).getD 7 0) (bxor (bxor (turnW ((vN h (wN b 48) i).getD 4 0) 6) (turnW ((vN h (wN b 48) i).getD 4 0) 11)) (turnW ((vN h (wN b 48) i).getD 4 0) 25))) (bxor (band ((vN h (wN b 48) i).getD 4 0) ((vN h (wN b 48) i).getD 5 0)) (band (bxor 4294967295 ((vN h (wN b 48) i).getD 4 0)) ((vN h (wN b 48) i).getD 6 0)))) (shaK.getD i 0)) ((wN b 48).getD i 0)) (wadd (bxor (bxor (turnW ((vN h (wN b 48) i).getD 0 0) 2) (turnW ((vN h (wN b 48) i).getD 0 0) 13)) (turnW ((vN h (wN b 48) i).getD 0 0) 22)) (bxor (bxor (band ((vN h (wN b 48) i).getD 0 0) ((vN h (wN b 48) i).getD 1 0)) (band ((vN h (wN b 48) i).getD 0 0) ((vN h (wN b 48) i).getD 2 0))) (band ((vN h (wN b 48) i).getD 1 0) ((vN h (wN b 48) i).getD 2 0)))))) 206 (A.g 204 rfl) (A.g 205 rfl) (Bin.add (k := .i64) (a := (wadd (wadd (wadd (wadd ((vN h (wN b 48) i).getD 7 0) (bxor (bxor (turnW ((vN h (wN b 48) i).getD 4 0) 6) (turnW ((vN h (wN b 48) i).getD 4 0) 11)) (turnW ((vN h (wN b 48) i).getD 4 0) 25))) (bxor (band ((vN h (wN b 48) i).getD 4 0) ((vN h (wN b 48) i).getD 5 0)) (band (bxor 4294967295 ((vN h (wN b 48) i).getD 4 0)) ((vN h (wN b 48) i).getD 6 0)))) (shaK.getD i 0)) ((wN b 48).getD i 0))) (b := (wadd (bxor (bxor (turnW ((vN h (wN b 48) i).getD 0 0) 2) (turnW ((vN h (wN b 48) i).getD 0 0) 13)) (turnW ((vN h (wN b 48) i).getD 0 0) 22)) (bxor (bxor (band ((vN h (wN b 48) i).getD 0 0) ((vN h (wN b 48) i).getD 1 0)) (band ((vN h (wN b 48) i).getD 0 0) ((vN h (wN b 48) i).getD 2 0))) (band ((vN h (wN b 48) i).getD 1 0) ((vN h (wN b 48) i).getD 2 0))))) (rfl)))) ?_
            refine .cons (fun E A => OpStep.plain rfl (Step.bd (r := .int .i64 (band (wadd (wadd (wadd (wadd (wadd ((vN h (wN b 48) i).getD 7 0) (bxor (bxor (turnW ((vN h (wN b 48) i).getD 4 0) 6) (turnW ((vN h (wN b 48) i).getD 4 0) 11)) (turnW ((vN h (wN b 48) i).getD 4 0) 25))) (bxor (band ((vN h (wN b 48) i).getD 4 0) ((vN h (wN b 48) i).getD 5 0)) (band (bxor 4294967295 ((vN h (wN b 48) i).getD 4 0)) ((vN h (wN b 48) i).getD 6 0)))) (shaK.getD i 0)) ((wN b 48).getD i 0)) (wadd (bxor (bxor (turnW ((vN h (wN b 48) i).getD 0 0) 2) (turnW ((vN h (wN b 48) i).getD 0 0) 13)) (turnW ((vN h (wN b 48) i).getD 0 0) 22)) (bxor (bxor (band ((vN h (wN b 48) i).getD 0 0) ((vN h (wN b 48) i).getD 1 0)) (band ((vN h (wN b 48) i).getD 0 0) ((vN h (wN b 48) i).getD 2 0))) (band ((vN h (wN b 48) i).getD 1 0) ((vN h (wN b 48) i).getD 2 0))))) 4294967295)) 207 (A.g 206 rfl) rfl (Bin.and (k := .i64) (a := (wadd (wadd (wadd (wadd (wadd ((vN h (wN b 48) i).getD 7 0) (bxor (bxor (turnW ((vN h (wN b 48) i).getD 4 0) 6) (turnW ((vN h (wN b 48) i).getD 4 0) 11)) (turnW ((vN h (wN b 48) i).getD 4 0) 25))) (bxor (band ((vN h (wN b 48) i).getD 4 0) ((vN h (wN b 48) i).getD 5 0)) (band (bxor 4294967295 ((vN h (wN b 48) i).getD 4 0)) ((vN h (wN b 48) i).getD 6 0)))) (shaK.getD i 0)) ((wN b 48).getD i 0)) (wadd (bxor (bxor (turnW ((vN h (wN b 48) i).getD 0 0) 2) (turnW ((vN h (wN b 48) i).getD 0 0) 13)) (turnW ((vN h (wN b 48) i).getD 0 0) 22)) (bxor (bxor (band ((vN h (wN b 48) i).getD 0 0) ((vN h (wN b 48) i).getD 1 0)) (band ((vN h (wN b 48) i).getD 0 0) ((vN h (wN b 48) i).getD 2 0))) (band ((vN h (wN b 48) i).getD 1 0) ((vN h (wN b 48) i).getD 2 0)))))) (b := 4294967295) (rfl)))) ?_
            refine .cons (fun E A => A.mv 15 208) ?_
            refine .cons (fun E A => OpStep.plain rfl (Step.index (e := 3) (z := 1) (i := 0) (t := 209) rfl rfl (by exact lt_ok rfl) (by kernel_rfl) (A.g 208 rfl) rfl rfl (lt_ok rfl) rfl (by first | omega | (simp; omega) | (simp [w16_len, wN_len]; omega)) (by simp only [D.size]; first | omega | (simp; omega) | (simp [w16_len, wN_len]; omega)))) ?_
            refine .cons (fun E A => OpStep.plain rfl (Step.load (e := (.int .i64 ((vN h (wN b 48) i).getD 0 0))) (t := 210) rfl rfl (by exact lt_ok rfl) (by kernel_rfl) (A.g 209 rfl) rfl)) ?_
            refine .cons (fun E A => A.mv 15 211) ?_
            refine .cons (fun E A => OpStep.plain rfl (Step.index (e := 3) (z := 1) (i := 1) (t := 212) rfl rfl (by exact lt_ok rfl) (by kernel_rfl) (A.g 211 rfl) rfl rfl (lt_ok rfl) rfl (by first | omega | (simp; omega) | (simp [w16_len, wN_len]; omega)) (by simp only [D.size]; first | omega | (simp; omega) | (simp [w16_len, wN_len]; omega)))) ?_
            refine .cons (fun E A => OpStep.plain rfl (Step.load (e := (.int .i64 ((vN h (wN b 48) i).getD 1 0))) (t := 213) rfl rfl (by exact lt_ok rfl) (by kernel_rfl) (A.g 212 rfl) rfl)) ?_
            refine .cons (fun E A => A.mv 15 214) ?_
            refine .cons (fun E A => OpStep.plain rfl (Step.index (e := 3) (z := 1) (i := 2) (t := 215) rfl rfl (by exact lt_ok rfl) (by kernel_rfl) (A.g 214 rfl) rfl rfl (lt_ok rfl) rfl (by first | omega | (simp; omega) | (simp [w16_len, wN_len]; omega)) (by simp only [D.size]; first | omega | (simp; omega) | (simp [w16_len, wN_len]; omega)))) ?_
            refine .cons (fun E A => OpStep.plain rfl (Step.load (e := (.int .i64 ((vN h (wN b 48) i).getD 2 0))) (t := 216) rfl rfl (by exact lt_ok rfl) (by kernel_rfl) (A.g 215 rfl) rfl)) ?_
            refine .cons (fun E A => A.mv 15 217) ?_
            refine .cons (fun E A => OpStep.plain rfl (Step.index (e := 3) (z := 1) (i := 3) (t := 218) rfl rfl (by exact lt_ok rfl) (by kernel_rfl) (A.g 217 rfl) rfl rfl (lt_ok rfl) rfl (by first | omega | (simp; omega) | (simp [w16_len, wN_len]; omega)) (by simp only [D.size]; first | omega | (simp; omega) | (simp [w16_len, wN_len]; omega)))) ?_
            refine .cons (fun E A => OpStep.plain rfl (Step.load (e := (.int .i64 ((vN h (wN b 48) i).getD 3 0))) (t := 219) rfl rfl (by exact lt_ok rfl) (by kernel_rfl) (A.g 218 rfl) rfl)) ?_
            refine .cons (fun E A => A.mv 19 220) ?_
            refine .cons (fun E A => OpStep.plain rfl (Step.bd (r := .int .i64 (wadd ((vN h (wN b 48) i).getD 3 0) (wadd (wadd (wadd (wadd ((vN h (wN b 48) i).getD 7 0) (bxor (bxor (turnW ((vN h (wN b 48) i).getD 4 0) 6) (turnW ((vN h (wN b 48) i).getD 4 0) 11)) (turnW ((vN h (wN b 48) i).getD 4 0) 25))) (bxor (band ((vN h (wN b 48) i).getD 4 0) ((vN h (wN b 48) i).getD 5 0)) (band (bxor 4294967295 ((vN h (wN b 48) i).getD 4 0)) ((vN h (wN b 48) i).getD 6 0)))) (shaK.getD i 0)) ((wN b 48).getD i 0)))) 221 (A.g 219 rfl) (A.g 220 rfl) (Bin.add (k := .i64) (a := ((vN h (wN b 48) i).getD 3 0)) (b := (wadd (wadd (wadd (wadd ((vN h (wN b 48) i).getD 7 0) (bxor (bxor (turnW ((vN h (wN b 48) i).getD 4 0) 6) (turnW ((vN h (wN b 48) i).getD 4 0) 11)) (turnW ((vN h (wN b 48) i).getD 4 0) 25))) (bxor (band ((vN h (wN b 48) i).getD 4 0) ((vN h (wN b 48) i).getD 5 0)) (band (bxor 4294967295 ((vN h (wN b 48) i).getD 4 0)) ((vN h (wN b 48) i).getD 6 0)))) (shaK.getD i 0)) ((wN b 48).getD i 0))) (rfl)))) ?_
            refine .cons (fun E A => OpStep.plain rfl (Step.bd (r := .int .i64 (band (wadd ((vN h (wN b 48) i).getD 3 0) (wadd (wadd (wadd (wadd ((vN h (wN b 48) i).getD 7 0) (bxor (bxor (turnW ((vN h (wN b 48) i).getD 4 0) 6) (turnW ((vN h (wN b 48) i).getD 4 0) 11)) (turnW ((vN h (wN b 48) i).getD 4 0) 25))) (bxor (band ((vN h (wN b 48) i).getD 4 0) ((vN h (wN b 48) i).getD 5 0)) (band (bxor 4294967295 ((vN h (wN b 48) i).getD 4 0)) ((vN h (wN b 48) i).getD 6 0)))) (shaK.getD i 0)) ((wN b 48).getD i 0))) 4294967295)) 222 (A.g 221 rfl) rfl (Bin.and (k := .i64) (a := (wadd ((vN h (wN b 48) i).getD 3 0) (wadd (wadd (wadd (wadd ((vN h (wN b 48) i).getD 7 0) (bxor (bxor (turnW ((vN h (wN b 48) i).getD 4 0) 6) (turnW ((vN h (wN b 48) i).getD 4 0) 11)) (turnW ((vN h (wN b 48) i).getD 4 0) 25))) (bxor (band ((vN h (wN b 48) i).getD 4 0) ((vN h (wN b 48) i).getD 5 0)) (band (bxor 4294967295 ((vN h (wN b 48) i).getD 4 0)) ((vN h (wN b 48) i).getD 6 0)))) (shaK.getD i 0)) ((wN b 48).getD i 0)))) (b := 4294967295) (rfl)))) ?_
            refine .cons (fun E A => A.mv 15 223) ?_
            refine .cons (fun E A => OpStep.plain rfl (Step.index (e := 3) (z := 1) (i := 4) (t := 224) rfl rfl (by exact lt_ok rfl) (by kernel_rfl) (A.g 223 rfl) rfl rfl (lt_ok rfl) rfl (by first | omega | (simp; omega) | (simp [w16_len, wN_len]; omega)) (by simp only [D.size]; first | omega | (simp; omega) | (simp [w16_len, wN_len]; omega)))) ?_
            refine .cons (fun E A => OpStep.plain rfl (Step.load (e := (.int .i64 ((vN h (wN b 48) i).getD 4 0))) (t := 225) rfl rfl (by exact lt_ok rfl) (by kernel_rfl) (A.g 224 rfl) rfl)) ?_
            refine .cons (fun E A => A.mv 15 226) ?_
            refine .cons (fun E A => OpStep.plain rfl (Step.index (e := 3) (z := 1) (i := 5) (t := 227) rfl rfl (by exact lt_ok rfl) (by kernel_rfl) (A.g 226 rfl) rfl rfl (lt_ok rfl) rfl (by first | omega | (simp; omega) | (simp [w16_len, wN_len]; omega)) (by simp only [D.size]; first | omega | (simp; omega) | (simp [w16_len, wN_len]; omega)))) ?_
            refine .cons (fun E A => OpStep.plain rfl (Step.load (e := (.int .i64 ((vN h (wN b 48) i).getD 5 0))) (t := 228) rfl rfl (by exact lt_ok rfl) (by kernel_rfl) (A.g 227 rfl) rfl)) ?_
            refine .cons (fun E A => A.mv 15 229) ?_
            refine .cons (fun E A => OpStep.plain rfl (Step.index (e := 3) (z := 1) (i := 6) (t := 230) rfl rfl (by exact lt_ok rfl) (by kernel_rfl) (A.g 229 rfl) rfl rfl (lt_ok rfl) rfl (by first | omega | (simp; omega) | (simp [w16_len, wN_len]; omega)) (by simp only [D.size]; first | omega | (simp; omega) | (simp [w16_len, wN_len]; omega)))) ?_
            refine .cons (fun E A => OpStep.plain rfl (Step.load (e := (.int .i64 ((vN h (wN b 48) i).getD 6 0))) (t := 231) rfl rfl (by exact lt_ok rfl) (by kernel_rfl) (A.g 230 rfl) rfl)) ?_
            refine .cons (fun E A => OpStep.plain rfl (Step.lit_d (e := 3) (z := 1) (by_ := 8) (xs := [.tmp 207, .tmp 210, .tmp 213, .tmp 216, .tmp 222, .tmp 225, .tmp 228, .tmp 231]) (pss := [[cI (band (wadd (wadd (wadd (wadd (wadd ((vN h (wN b 48) i).getD 7 0) (bxor (bxor (turnW ((vN h (wN b 48) i).getD 4 0) 6) (turnW ((vN h (wN b 48) i).getD 4 0) 11)) (turnW ((vN h (wN b 48) i).getD 4 0) 25))) (bxor (band ((vN h (wN b 48) i).getD 4 0) ((vN h (wN b 48) i).getD 5 0)) (band (bxor 4294967295 ((vN h (wN b 48) i).getD 4 0)) ((vN h (wN b 48) i).getD 6 0)))) (shaK.getD i 0)) ((wN b 48).getD i 0)) (wadd (bxor (bxor (turnW ((vN h (wN b 48) i).getD 0 0) 2) (turnW ((vN h (wN b 48) i).getD 0 0) 13)) (turnW ((vN h (wN b 48) i).getD 0 0) 22)) (bxor (bxor (band ((vN h (wN b 48) i).getD 0 0) ((vN h (wN b 48) i).getD 1 0)) (band ((vN h (wN b 48) i).getD 0 0) ((vN h (wN b 48) i).getD 2 0))) (band ((vN h (wN b 48) i).getD 1 0) ((vN h (wN b 48) i).getD 2 0))))) 4294967295)], [cI ((vN h (wN b 48) i).getD 0 0)], [cI ((vN h (wN b 48) i).getD 1 0)], [cI ((vN h (wN b 48) i).getD 2 0)], [cI (band (wadd ((vN h (wN b 48) i).getD 3 0) (wadd (wadd (wadd (wadd ((vN h (wN b 48) i).getD 7 0) (bxor (bxor (turnW ((vN h (wN b 48) i).getD 4 0) 6) (turnW ((vN h (wN b 48) i).getD 4 0) 11)) (turnW ((vN h (wN b 48) i).getD 4 0) 25))) (bxor (band ((vN h (wN b 48) i).getD 4 0) ((vN h (wN b 48) i).getD 5 0)) (band (bxor 4294967295 ((vN h (wN b 48) i).getD 4 0)) ((vN h (wN b 48) i).getD 6 0)))) (shaK.getD i 0)) ((wN b 48).getD i 0))) 4294967295)], [cI ((vN h (wN b 48) i).getD 4 0)], [cI ((vN h (wN b 48) i).getD 5 0)], [cI ((vN h (wN b 48) i).getD 6 0)]]) (ds := [(.int .i64 (band (wadd (wadd (wadd (wadd (wadd ((vN h (wN b 48) i).getD 7 0) (bxor (bxor (turnW ((vN h (wN b 48) i).getD 4 0) 6) (turnW ((vN h (wN b 48) i).getD 4 0) 11)) (turnW ((vN h (wN b 48) i).getD 4 0) 25))) (bxor (band ((vN h (wN b 48) i).getD 4 0) ((vN h (wN b 48) i).getD 5 0)) (band (bxor 4294967295 ((vN h (wN b 48) i).getD 4 0)) ((vN h (wN b 48) i).getD 6 0)))) (shaK.getD i 0)) ((wN b 48).getD i 0)) (wadd (bxor (bxor (turnW ((vN h (wN b 48) i).getD 0 0) 2) (turnW ((vN h (wN b 48) i).getD 0 0) 13)) (turnW ((vN h (wN b 48) i).getD 0 0) 22)) (bxor (bxor (band ((vN h (wN b 48) i).getD 0 0) ((vN h (wN b 48) i).getD 1 0)) (band ((vN h (wN b 48) i).getD 0 0) ((vN h (wN b 48) i).getD 2 0))) (band ((vN h (wN b 48) i).getD 1 0) ((vN h (wN b 48) i).getD 2 0))))) 4294967295)), (.int .i64 ((vN h (wN b 48) i).getD 0 0)), (.int .i64 ((vN h (wN b 48) i).getD 1 0)), (.int .i64 ((vN h (wN b 48) i).getD 2 0)), (.int .i64 (band (wadd ((vN h (wN b 48) i).getD 3 0) (wadd (wadd (wadd (wadd ((vN h (wN b 48) i).getD 7 0) (bxor (bxor (turnW ((vN h (wN b 48) i).getD 4 0) 6) (turnW ((vN h (wN b 48) i).getD 4 0) 11)) (turnW ((vN h (wN b 48) i).getD 4 0) 25))) (bxor (band ((vN h (wN b 48) i).getD 4 0) ((vN h (wN b 48) i).getD 5 0)) (band (bxor 4294967295 ((vN h (wN b 48) i).getD 4 0)) ((vN h (wN b 48) i).getD 6 0)))) (shaK.getD i 0)) ((wN b 48).getD i 0))) 4294967295)), (.int .i64 ((vN h (wN b 48) i).getD 4 0)), (.int .i64 ((vN h (wN b 48) i).getD 5 0)), (.int .i64 ((vN h (wN b 48) i).getD 6 0))]) (d := (.ints .i64 [band (wadd (wadd (wadd (wadd (wadd ((vN h (wN b 48) i).getD 7 0) (bxor (bxor (turnW ((vN h (wN b 48) i).getD 4 0) 6) (turnW ((vN h (wN b 48) i).getD 4 0) 11)) (turnW ((vN h (wN b 48) i).getD 4 0) 25))) (bxor (band ((vN h (wN b 48) i).getD 4 0) ((vN h (wN b 48) i).getD 5 0)) (band (bxor 4294967295 ((vN h (wN b 48) i).getD 4 0)) ((vN h (wN b 48) i).getD 6 0)))) (shaK.getD i 0)) ((wN b 48).getD i 0)) (wadd (bxor (bxor (turnW ((vN h (wN b 48) i).getD 0 0) 2) (turnW ((vN h (wN b 48) i).getD 0 0) 13)) (turnW ((vN h (wN b 48) i).getD 0 0) 22)) (bxor (bxor (band ((vN h (wN b 48) i).getD 0 0) ((vN h (wN b 48) i).getD 1 0)) (band ((vN h (wN b 48) i).getD 0 0) ((vN h (wN b 48) i).getD 2 0))) (band ((vN h (wN b 48) i).getD 1 0) ((vN h (wN b 48) i).getD 2 0))))) 4294967295, (vN h (wN b 48) i).getD 0 0, (vN h (wN b 48) i).getD 1 0, (vN h (wN b 48) i).getD 2 0, band (wadd ((vN h (wN b 48) i).getD 3 0) (wadd (wadd (wadd (wadd ((vN h (wN b 48) i).getD 7 0) (bxor (bxor (turnW ((vN h (wN b 48) i).getD 4 0) 6) (turnW ((vN h (wN b 48) i).getD 4 0) 11)) (turnW ((vN h (wN b 48) i).getD 4 0) 25))) (bxor (band ((vN h (wN b 48) i).getD 4 0) ((vN h (wN b 48) i).getD 5 0)) (band (bxor 4294967295 ((vN h (wN b 48) i).getD 4 0)) ((vN h (wN b 48) i).getD 6 0)))) (shaK.getD i 0)) ((wN b 48).getD i 0))) 4294967295, (vN h (wN b 48) i).getD 4 0, (vN h (wN b 48) i).getD 5 0, (vN h (wN b 48) i).getD 6 0])) (t := 232) rfl rfl (by exact lt_ok rfl) (by kernel_rfl) rfl rfl (.cons (by exact (congrArg PV.flat (A.g 207 rfl)).trans rfl) (.cons (by exact (congrArg PV.flat (A.g 210 rfl)).trans rfl) (.cons (by exact (congrArg PV.flat (A.g 213 rfl)).trans rfl) (.cons (by exact (congrArg PV.flat (A.g 216 rfl)).trans rfl) (.cons (by exact (congrArg PV.flat (A.g 222 rfl)).trans rfl) (.cons (by exact (congrArg PV.flat (A.g 225 rfl)).trans rfl) (.cons (by exact (congrArg PV.flat (A.g 228 rfl)).trans rfl) (.cons (by exact (congrArg PV.flat (A.g 231 rfl)).trans rfl) .nil)))))))) (by simp) (le_ok rfl) (le_ok rfl) rfl rfl trivial rfl rfl)) ?_
            exact .nil _ _
           refine TL.as (.one (.d (.ints .i64 [band (wadd (wadd (wadd (wadd (wadd ((vN h (wN b 48) i).getD 7 0) (bxor (bxor (turnW ((vN h (wN b 48) i).getD 4 0) 6) (turnW ((vN h (wN b 48) i).getD 4 0) 11)) (turnW ((vN h (wN b 48) i).getD 4 0) 25))) (bxor (band ((vN h (wN b 48) i).getD 4 0) ((vN h (wN b 48) i).getD 5 0)) (band (bxor 4294967295 ((vN h (wN b 48) i).getD 4 0)) ((vN h (wN b 48) i).getD 6 0)))) (shaK.getD i 0)) ((wN b 48).getD i 0)) (wadd (bxor (bxor (turnW ((vN h (wN b 48) i).getD 0 0) 2) (turnW ((vN h (wN b 48) i).getD 0 0) 13)) (turnW ((vN h (wN b 48) i).getD 0 0) 22)) (bxor (bxor (band ((vN h (wN b 48) i).getD 0 0) ((vN h (wN b 48) i).getD 1 0)) (band ((vN h (wN b 48) i).getD 0 0) ((vN h (wN b 48) i).getD 2 0))) (band ((vN h (wN b 48) i).getD 1 0) ((vN h (wN b 48) i).getD 2 0))))) 4294967295, (vN h (wN b 48) i).getD 0 0, (vN h (wN b 48) i).getD 1 0, (vN h (wN b 48) i).getD 2 0, band (wadd ((vN h (wN b 48) i).getD 3 0) (wadd (wadd (wadd (wadd ((vN h (wN b 48) i).getD 7 0) (bxor (bxor (turnW ((vN h (wN b 48) i).getD 4 0) 6) (turnW ((vN h (wN b 48) i).getD 4 0) 11)) (turnW ((vN h (wN b 48) i).getD 4 0) 25))) (bxor (band ((vN h (wN b 48) i).getD 4 0) ((vN h (wN b 48) i).getD 5 0)) (band (bxor 4294967295 ((vN h (wN b 48) i).getD 4 0)) ((vN h (wN b 48) i).getD 6 0)))) (shaK.getD i 0)) ((wN b 48).getD i 0))) 4294967295, (vN h (wN b 48) i).getD 4 0, (vN h (wN b 48) i).getD 5 0, (vN h (wN b 48) i).getD 6 0]))) ?_
           refine TL.nil ?_
           refine T.region ?_
           refine TL.mv (pI (i : Int)) ?_
           refine TL.c (Step.bin (r := .int .i64 ((i : Int) + 1)) rfl rfl (lt_ok rfl) rfl rfl (Bin.add (a := (i : Int)) (b := 1) (by first | exact wrap_ok (by first | omega | (simp; omega) | (simp [w16_len, wN_len]; omega)) (by first | omega | (simp; omega) | (simp [w16_len, wN_len]; omega)) | rfl))) ?_
           refine TL.as (pI ((i : Int) + 1)) ?_
           refine TL.nil ?_
           refine ⟨i + 1, by omega, by first | omega | (dsimp only; omega), Env.le_mk ⟨rfl, rfl, rfl, ?_, ?_, trivial⟩ ⟨rfl, rfl, trivial⟩ trivial⟩ <;> (first | exact congrArg (fun x => some (_, D.ints .i64 (wN b x))) (show i = 48 by omega) | rfl | (refine congrArg (fun x => some (_, D.ints .i64 x)) ?_; first | rfl | fail) | (refine congrArg (fun n => PV.one (.d (.int .i64 n))) ?_; first | rfl | omega | (simp; done)))
          ·
           replace h8 := of_decide_eq_false h8
           refine T.exit ?_
           refine T.seq ?_
           refine T.region ?_
           refine TL.c (Step.lit (e := 3) (z := 1) (by_ := 8) (xs := []) (pss := []) (es := []) (ss := []) (d := (.ints .i64 [])) rfl rfl (lt_ok rfl) (by kernel_rfl) rfl rfl .nil (by simp) (le_ok rfl) (le_ok rfl) rfl .nil rfl (by simp) (by simp) rfl trivial rfl rfl) ?_
           refine TL.as (.one (.row 233 [])) ?_
           refine TL.nil ?_
           refine T.seq ?_
           refine T.seq ?_
           refine T.region ?_
           refine TL.mv (.one (.d (.ints .i64 h))) ?_
           refine TL.c (Step.len (e := 3) (z := 1) (d := (.ints .i64 h)) rfl rfl (lt_ok rfl) (by kernel_rfl) rfl rfl) ?_
           refine TL.mv (pI 0) ?_
           refine TL.nil ?_
           refine T.block ?_
           refine T.loop (ι := Nat) (fun xx_ => { tm := [(0, (.one (.d (.ints .i64 h)))), (15, (.one (.d (.ints .i64 (vN h (wN b 48) 64))))), (235, (pI (h.length : Int))), (236, (pI (xx_ : Int))), (21, (.one (.row 233 [])))], rows := [(1127, (3, (.ints .i64 shaK))), (233, (3, (.ints .i64 (outs h (vN h (wN b 48) 64) xx_))))], boxes := [] }) (fun xx_ => xx_ ≤ 8) (fun xx_ => 8 - xx_) 0 ?_ ?_ ?_
           · refine Env.le_mk ⟨rfl, ?_, rfl, ?_, rfl, trivial⟩ ⟨rfl, ?_, trivial⟩ trivial <;> (first | (exact congrArg (fun x => some (_, D.ints .i64 (vN h (wN b 48) x))) (show i = 64 by omega)) | (exact congrArg (fun x => PV.one (.d (.ints .i64 (vN h (wN b 48) x)))) (show i = 64 by omega)) | rfl | (refine congrArg (fun x => some (_, D.ints .i64 x)) ?_; first | rfl | (rw [show i = 64 from by omega]; first | done | rfl)) | (refine congrArg (fun n => PV.one (.d (.int .i64 n))) ?_; first | rfl | omega | (simp; done)))
           · exact Nat.zero_le _
           ·
            intro i hx
            try dsimp only at hx ⊢
            have hvl_ := vN_len (h := h) (w := wN b 48) (by omega) 64
            have hol_ := outs_len h (vN h (wN b 48) 64) i
            refine T.seq ?_
            refine T.region ?_
            refine TL.c (Step.bin rfl rfl (lt_ok rfl) rfl rfl (Bin.lss (k := .i64) (a := (i : Int)) (b := (h.length : Int)))) ?_
            refine TL.nil ?_
            refine T.seq ?_
            refine T.cond (b := decide ((i : Int) < (h.length : Int))) rfl (fun h9 => ?_) (fun h9 => ?_)
            ·
             replace h9 := of_decide_eq_true h9
             refine T.skip ?_
             refine T.seq ?_
             refine T.block ?_
             refine T.seq ?_
             refine T.region ?_
             refine TL.mv (pI (i : Int)) ?_
             refine TL.as (pI (i : Int)) ?_
             refine TL.nil ?_
             refine T.draw [⟨239, (.one (.row 233 [])), []⟩, ⟨240, (.one (.d (.ints .i64 h))), []⟩, ⟨241, (pI (i : Int)), []⟩, ⟨242, (.one (.eptr (.ints .i64 h) i 0)), []⟩, ⟨243, (pI (h.getD i 0)), []⟩, ⟨244, (.one (.d (.ints .i64 (vN h (wN b 48) 64)))), []⟩, ⟨245, (pI (i : Int)), []⟩, ⟨246, (.one (.eptr (.ints .i64 (vN h (wN b 48) 64)) i 0)), []⟩, ⟨247, (pI ((vN h (wN b 48) 64).getD i 0)), []⟩, ⟨248, (pI (wadd (h.getD i 0) ((vN h (wN b 48) 64).getD i 0))), []⟩, ⟨249, (pI (band (wadd (h.getD i 0) ((vN h (wN b 48) 64).getD i 0)) 4294967295)), []⟩, ⟨250, (.one (.d (.ints .i64 [band (wadd (h.getD i 0) ((vN h (wN b 48) 64).getD i 0)) 4294967295]))), []⟩] (by kernel_rfl) (by kernel_rfl) ?_ ?_
             ·
              refine .cons (fun E A => A.mv 21 239) ?_
              refine .cons (fun E A => A.mv 0 240) ?_
              refine .cons (fun E A => A.mv 22 241) ?_
              refine .cons (fun E A => OpStep.plain rfl (Step.index (e := 3) (z := 1) (i := (i : Int)) (t := 242) rfl rfl (by exact lt_ok rfl) (by kernel_rfl) (A.g 240 rfl) rfl rfl (lt_ok rfl) (A.g 241 rfl) (by first | omega | (simp; omega) | (simp [w16_len, wN_len]; omega)) (by simp only [D.size]; first | omega | (simp; omega) | (simp [w16_len, wN_len]; omega)))) ?_
              refine .cons (fun E A => OpStep.plain rfl (Step.load (e := (.int .i64 (h.getD i 0))) (t := 243) rfl rfl (by exact lt_ok rfl) (by kernel_rfl) (A.g 242 rfl) rfl)) ?_
              refine .cons (fun E A => A.mv 15 244) ?_
              refine .cons (fun E A => A.mv 22 245) ?_
              refine .cons (fun E A => OpStep.plain rfl (Step.index (e := 3) (z := 1) (i := (i : Int)) (t := 246) rfl rfl (by exact lt_ok rfl) (by kernel_rfl) (A.g 244 rfl) rfl rfl (lt_ok rfl) (A.g 245 rfl) (by first | omega | (simp; omega) | (simp [w16_len, wN_len]; omega)) (by simp only [D.size]; first | omega | (simp; omega) | (simp [w16_len, wN_len]; omega)))) ?_
              refine .cons (fun E A => OpStep.plain rfl (Step.load (e := (.int .i64 ((vN h (wN b 48) 64).getD i 0))) (t := 247) rfl rfl (by exact lt_ok rfl) (by kernel_rfl) (A.g 246 rfl) rfl)) ?_
              refine .cons (fun E A => OpStep.plain rfl (Step.bd (r := .int .i64 (wadd (h.getD i 0) ((vN h (wN b 48) 64).getD i 0))) 248 (A.g 243 rfl) (A.g 247 rfl) (Bin.add (k := .i64) (a := (h.getD i 0)) (b := ((vN h (wN b 48) 64).getD i 0)) (rfl)))) ?_
              refine .cons (fun E A => OpStep.plain rfl (Step.bd (r := .int .i64 (band (wadd (h.getD i 0) ((vN h (wN b 48) 64).getD i 0)) 4294967295)) 249 (A.g 248 rfl) rfl (Bin.and (k := .i64) (a := (wadd (h.getD i 0) ((vN h (wN b 48) 64).getD i 0))) (b := 4294967295) (rfl)))) ?_
              refine .cons (fun E A => OpStep.plain rfl (Step.lit_d (e := 3) (z := 1) (by_ := 8) (xs := [.tmp 249]) (pss := [[cI (band (wadd (h.getD i 0) ((vN h (wN b 48) 64).getD i 0)) 4294967295)]]) (ds := [(.int .i64 (band (wadd (h.getD i 0) ((vN h (wN b 48) 64).getD i 0)) 4294967295))]) (d := (.ints .i64 [band (wadd (h.getD i 0) ((vN h (wN b 48) 64).getD i 0)) 4294967295])) (t := 250) rfl rfl (by exact lt_ok rfl) (by kernel_rfl) rfl rfl (.cons (by exact (congrArg PV.flat (A.g 249 rfl)).trans rfl) .nil) (by simp) (le_ok rfl) (le_ok rfl) rfl rfl trivial rfl rfl)) ?_
              exact .nil _ _
             refine TL.c (Step.append (e := 3) (z := 1) (by_ := 8) (d := (.ints .i64 (outs h (vN h (wN b 48) 64) i))) (dy := (.ints .i64 [band (wadd (h.getD i 0) ((vN h (wN b 48) 64).getD i 0)) 4294967295])) (d' := (.ints .i64 ((outs h (vN h (wN b 48) 64) i) ++ [band (wadd (h.getD i 0) ((vN h (wN b 48) 64).getD i 0)) 4294967295]))) (ss := []) rfl rfl (lt_ok rfl) (by kernel_rfl) rfl rfl rfl (lt_ok rfl) rfl (.froz rfl (by simp [D.flat, D.val])) (by simp) rfl (by simp only [D.size, List.length_map]; first | omega | (simp only [List.length_append, List.length_cons, List.length_nil]; omega) | (simp; omega) | (simp only [List.length_append] at *; omega)) (by simp only [D.size, List.length_map]; first | omega | (simp only [List.length_append, List.length_cons, List.length_nil]; omega) | (simp; omega) | (simp only [List.length_append] at *; omega)) (by simp)) ?_
             refine TL.as (.one (.row 233 [])) ?_
             refine TL.nil ?_
             refine T.region ?_
             refine TL.c (Step.bin (r := .int .i64 ((i : Int) + 1)) rfl rfl (lt_ok rfl) rfl rfl (Bin.add (a := (i : Int)) (b := 1) (by first | exact wrap_ok (by first | omega | (simp; omega) | (simp [w16_len, wN_len]; omega)) (by first | omega | (simp; omega) | (simp [w16_len, wN_len]; omega)) | rfl))) ?_
             refine TL.mv (pI ((i : Int) + 1)) ?_
             refine TL.nil ?_
             refine ⟨i + 1, by omega, by first | omega | (dsimp only; omega), Env.le_mk ⟨rfl, rfl, rfl, ?_, rfl, trivial⟩ ⟨rfl, ?_, trivial⟩ trivial⟩ <;> (first | (exact congrArg (fun x => some (_, D.ints .i64 (vN h (wN b 48) x))) (show i = 64 by omega)) | (exact congrArg (fun x => PV.one (.d (.ints .i64 (vN h (wN b 48) x)))) (show i = 64 by omega)) | rfl | (refine congrArg (fun x => some (_, D.ints .i64 x)) ?_; first | rfl | (rw [show i = 64 from by omega]; first | done | rfl)) | (refine congrArg (fun n => PV.one (.d (.int .i64 n))) ?_; first | rfl | omega | (simp; done)))
            ·
             replace h9 := of_decide_eq_false h9
             refine T.exit ?_
             refine T.seq ?_
             refine T.region ?_
             refine TL.mv (.one (.row 233 [])) ?_
             refine TL.as (.one (.row 233 [])) ?_
             refine TL.nil ?_
             refine T.ret ?_
             refine ⟨[(false, [.row 233 []])], (.cons rfl .nil), rfl, [233], (RetC.own' rfl ?_ rfl .nil)⟩ <;> (first | (rw [shaBlock_yes (h := h) (b := b) ⟨by omega, by omega, hwo_⟩, show i = 8 from by omega]; done) | (simp only [D.size]; first | (rw [shaBlock_no (fun h_ => by have := h_.1; have := h_.2.1; omega)]; rfl) | (rw [shaBlock_no (fun h_ => by have := h_.2.2; rw [words_no (i := i) (by omega) (by omega)] at this; cases this)]; rfl)))
theorem ok_spec_Sha (b : List Int) (h0_ : U8s b) (h1_ : b.length ≤ 17592186040000) : RO Try.prog 101 [.one (.ints .u8 b)] [(false, [.own 5 (.ints .u8 (sha b))])] := by
 refine RO.intro Try.func101 rfl 48 rfl (le_ok rfl) fun w Z => ?_
 refine T.bnd 0 0 rfl rfl fun hb_0_0 => ?_
 simp only [D.size, List.length_map] at hb_0_0
 refine T.seq ?_
 refine T.region ?_
 refine TL.as (.one (.nil)) ?_
 refine TL.nil ?_
 refine T.seq ?_
 refine T.region ?_
 refine TL.c (Step.cl (xs := []) (ps := []) (g := .func 147) false .nil (ok_spec_ShaInit )) ?_
 refine TL.as (.one (.row 1009 [])) ?_
 refine TL.ren 1009 600003 rfl (by simp) ?_
 refine TL.nil ?_
 refine T.seq ?_
 refine T.region ?_
 refine TL.mv (pS b) ?_
 have nn1 := shaPad_mod b
 refine TL.c (Step.cl (xs := [.tmp 10]) (ps := [(pS b)]) (g := .func 148) false (.cons (.one (.d _)) .nil) (ok_spec_ShaPad b (by first | omega | assumption | (simp only [List.length_append] at *; omega)))) ?_
 refine TL.freeze (r := 1011) rfl (fun _ h => h) ?_
 refine TL.as (pS (shaPad b)) ?_
 refine TL.nil ?_
 refine T.seq ?_
 refine T.seq ?_
 refine T.region ?_
 refine TL.as (pI 0) ?_
 refine TL.nil ?_
 refine T.block ?_
 refine T.loop (ι := Nat) (fun xx_ => { tm := [(2, (.one (.nil))), (4, (pS (shaPad b))), (5, (pI (64 * (xx_ : Int)))), (3, (.one (.row 600003 [])))], rows := [(600003, (3, (.ints .i64 (hN (shaPad b) xx_))))], boxes := [] }) (fun xx_ => 64 * xx_ ≤ (shaPad b).length) (fun xx_ => (shaPad b).length - 64 * xx_) 0 ?_ ?_ ?_
 · refine Env.le_mk ⟨rfl, rfl, ?_, rfl, trivial⟩ ⟨?_, trivial⟩ trivial <;> (first | rfl | (refine congrArg (fun n => PV.one (.d (.int .i64 n))) ?_; first | rfl | omega | (simp; done)))
 · exact Nat.zero_le _
 ·
  intro i hx
  try dsimp only at hx ⊢
  have hu_ := u8_sub (shaPad_u8 h0_)
  refine T.seq ?_
  refine T.seq ?_
  refine T.region ?_
  refine TL.mv (pI (64 * (i : Int))) ?_
  refine TL.mv (pS (shaPad b)) ?_
  refine TL.c (Step.len (e := 5) (z := 1) (d := (.ints .u8 (shaPad b))) rfl rfl (lt_ok rfl) (by kernel_rfl) rfl rfl) ?_
  refine TL.c (Step.bin rfl rfl (lt_ok rfl) rfl rfl (Bin.lss (k := .i64) (a := (64 * (i : Int))) (b := ((shaPad b).length : Int)))) ?_
  refine TL.nil ?_
  refine T.cond (b := decide ((64 * (i : Int)) < ((shaPad b).length : Int))) rfl (fun h2 => ?_) (fun h2 => ?_)
  ·
   replace h2 := of_decide_eq_true h2
   refine T.skip ?_
   refine T.seq ?_
   refine T.block ?_
   refine T.region ?_
   refine TL.mv (.one (.row 600003 [])) ?_
   refine TL.mv (pS (shaPad b)) ?_
   refine TL.mv (pI (64 * (i : Int))) ?_
   refine TL.mv (pI (64 * (i : Int))) ?_
   refine TL.c (Step.bin (r := .int .i64 ((64 * (i : Int)) + 64)) rfl rfl (lt_ok rfl) rfl rfl (Bin.add (a := (64 * (i : Int))) (b := 64) (by first | exact wrap_ok (by first | omega | (simp; omega)) (by first | omega | (simp; omega)) | rfl))) ?_
   refine TL.c (Step.slice (e := 5) (z := 1) (l := (64 * (i : Int)).toNat) (h := ((64 * (i : Int)) + 64).toNat) rfl rfl (lt_ok rfl) (by kernel_rfl) rfl rfl rfl ((.some (i := (64 * (i : Int))) rfl (by first | omega | (simp; omega)))) ((.some (i := ((64 * (i : Int)) + 64)) rfl (by first | omega | (simp; omega)))) (by first | omega | (simp; omega)) (by simp only [D.size]; first | omega | (simp; omega)) rfl) ?_
   have nn3 := shaBlock_len (hN (shaPad b) i) (((shaPad b).drop (64 * (i : Int)).toNat).take (((64 * (i : Int)) + 64).toNat - (64 * (i : Int)).toNat))
   refine TL.c (Step.cl (xs := [.tmp 18, .tmp 23]) (ps := [(.one (.row 600003 [])), (pS (((shaPad b).drop (64 * (i : Int)).toNat).take (((64 * (i : Int)) + 64).toNat - (64 * (i : Int)).toNat)))]) (g := .func 149) false (.cons (.one (.row rfl rfl rfl rfl)) (.cons (.one (.d _)) .nil)) (ok_spec_ShaBlock (hN (shaPad b) i) (((shaPad b).drop (64 * (i : Int)).toNat).take (((64 * (i : Int)) + 64).toNat - (64 * (i : Int)).toNat)) (by first | assumption | exact hu_ _ _))) ?_
   refine TL.as (.one (.row 1024 [])) ?_
   refine TL.weaken (Env.drops_le [600003] _) ?_
   refine TL.ren 1024 600003 rfl (by simp) ?_
   refine TL.nil ?_
   refine T.region ?_
   refine TL.mv (pI (64 * (i : Int))) ?_
   refine TL.c (Step.bin (r := .int .i64 ((64 * (i : Int)) + 64)) rfl rfl (lt_ok rfl) rfl rfl (Bin.add (a := (64 * (i : Int))) (b := 64) (by first | exact wrap_ok (by first | omega | (simp; omega)) (by first | omega | (simp; omega)) | rfl))) ?_
   refine TL.as (pI ((64 * (i : Int)) + 64)) ?_
   refine TL.nil ?_
   refine ⟨i + 1, by omega, by first | omega | (dsimp only; omega), Env.le_mk ⟨rfl, rfl, ?_, rfl, trivial⟩ ⟨?_, trivial⟩ trivial⟩ <;> (first | rfl | (refine congrArg (fun n => PV.one (.d (.int .i64 n))) ?_; first | rfl | omega | (simp; done)))
  ·
   replace h2 := of_decide_eq_false h2
   refine T.exit ?_
   refine T.seq ?_
   refine T.region ?_
   refine TL.c (Step.lit (e := 5) (z := 1) (by_ := 1) (xs := []) (pss := []) (es := []) (ss := []) (d := (.ints .u8 [])) rfl rfl (lt_ok rfl) (by kernel_rfl) rfl rfl .nil (by simp) (le_ok rfl) (le_ok rfl) rfl .nil rfl (by simp) (by simp) rfl trivial rfl rfl) ?_
   refine TL.as (.one (.row 25 [])) ?_
   refine TL.nil ?_
   refine T.seq ?_
   refine T.seq ?_
   refine T.region ?_
   refine TL.mv (.one (.row 600003 [])) ?_
   refine TL.c (Step.len (e := 3) (z := 1) (d := (.ints .i64 (hN (shaPad b) i))) rfl rfl (lt_ok rfl) (by kernel_rfl) rfl rfl) ?_
   refine TL.mv (pI 0) ?_
   refine TL.nil ?_
   refine T.block ?_
   refine T.loop (ι := Nat) (fun xx_ => { tm := [(2, (.one (.nil))), (26, (.one (.row 600003 []))), (27, (pI ((shaH b).length : Int))), (28, (pI (xx_ : Int))), (6, (.one (.row 25 [])))], rows := [(600003, (3, (.ints .i64 (shaH b)))), (25, (5, (.ints .u8 (outB (shaH b) xx_))))], boxes := [] }) (fun xx_ => xx_ ≤ (shaH b).length) (fun xx_ => (shaH b).length - xx_) 0 ?_ ?_ ?_
   · refine Env.le_mk ⟨rfl, rfl, ?_, ?_, rfl, trivial⟩ ⟨?_, ?_, trivial⟩ trivial <;> (first | rfl | (refine congrArg (fun x => some (_, D.ints .i64 x)) ?_; unfold shaH; rw [show i = (shaPad b).length / 64 from by omega]) | (refine congrArg (fun n => PV.one (.d (.int .i64 n))) ?_; first | rfl | omega | (unfold shaH; rw [show i = (shaPad b).length / 64 from by omega]; first | done | rfl) | (simp; done)))
   · exact Nat.zero_le _
   ·
    intro i hx
    try dsimp only at hx ⊢
    have hl_ := outB_len (shaH b) i
    have hh_ : (shaH b).length ≤ 8 := hN_len _ _
    refine T.seq ?_
    refine T.region ?_
    refine TL.c (Step.bin rfl rfl (lt_ok rfl) rfl rfl (Bin.lss (k := .i64) (a := (i : Int)) (b := ((shaH b).length : Int)))) ?_
    refine TL.nil ?_
    refine T.seq ?_
    refine T.cond (b := decide ((i : Int) < ((shaH b).length : Int))) rfl (fun h4 => ?_) (fun h4 => ?_)
    ·
     replace h4 := of_decide_eq_true h4
     refine T.skip ?_
     refine T.seq ?_
     refine T.block ?_
     refine T.seq ?_
     refine T.region ?_
     refine TL.c (Step.index_row (e := 3) (z := 1) (i := (i : Int)) rfl rfl (lt_ok rfl) (by kernel_rfl) rfl rfl rfl rfl (lt_ok rfl) rfl (by first | omega | (simp; omega)) (by simp only [D.at_, D.cell, D.size]; first | omega | (simp; omega))) ?_
     refine TL.c (Step.load_row (c := cI ((shaH b).getD i 0)) rfl rfl (lt_ok rfl) (by kernel_rfl) rfl rfl rfl) ?_
     refine TL.as (pI ((shaH b).getD i 0)) ?_
     refine TL.nil ?_
     refine T.region ?_
     refine TL.mv (.one (.row 25 [])) ?_
     refine TL.mv (pI ((shaH b).getD i 0)) ?_
     refine TL.c (Step.bin (r := .int .i64 (bshr ((shaH b).getD i 0) 24)) rfl rfl (lt_ok rfl) rfl rfl (Bin.shr (k := .i64) (k' := .u64) (a := ((shaH b).getD i 0)) (b := 24) (by first | omega | (simp; omega)) (rfl))) ?_
     refine TL.c (Step.conv (c := ((bshr ((shaH b).getD i 0) 24) % 256)) rfl rfl (lt_ok rfl) (by kernel_rfl) (by kernel_rfl) rfl (wrap_byte _)) ?_
     refine TL.mv (pI ((shaH b).getD i 0)) ?_
     refine TL.c (Step.bin (r := .int .i64 (bshr ((shaH b).getD i 0) 16)) rfl rfl (lt_ok rfl) rfl rfl (Bin.shr (k := .i64) (k' := .u64) (a := ((shaH b).getD i 0)) (b := 16) (by first | omega | (simp; omega)) (rfl))) ?_
     refine TL.c (Step.conv (c := ((bshr ((shaH b).getD i 0) 16) % 256)) rfl rfl (lt_ok rfl) (by kernel_rfl) (by kernel_rfl) rfl (wrap_byte _)) ?_
     refine TL.mv (pI ((shaH b).getD i 0)) ?_
     refine TL.c (Step.bin (r := .int .i64 (bshr ((shaH b).getD i 0) 8)) rfl rfl (lt_ok rfl) rfl rfl (Bin.shr (k := .i64) (k' := .u64) (a := ((shaH b).getD i 0)) (b := 8) (by first | omega | (simp; omega)) (rfl))) ?_
     refine TL.c (Step.conv (c := ((bshr ((shaH b).getD i 0) 8) % 256)) rfl rfl (lt_ok rfl) (by kernel_rfl) (by kernel_rfl) rfl (wrap_byte _)) ?_
     refine TL.mv (pI ((shaH b).getD i 0)) ?_
     refine TL.c (Step.conv (c := (((shaH b).getD i 0) % 256)) rfl rfl (lt_ok rfl) (by kernel_rfl) (by kernel_rfl) rfl (wrap_byte _)) ?_
     refine TL.c (Step.lit (e := 5) (z := 1) (by_ := 1) (xs := [.tmp 35, .tmp 38, .tmp 41, .tmp 43]) (pss := [[.d (.int .u8 ((bshr ((shaH b).getD i 0) 24) % 256))], [.d (.int .u8 ((bshr ((shaH b).getD i 0) 16) % 256))], [.d (.int .u8 ((bshr ((shaH b).getD i 0) 8) % 256))], [.d (.int .u8 (((shaH b).getD i 0) % 256))]]) (es := [(.int .u8 ((bshr ((shaH b).getD i 0) 24) % 256)), (.int .u8 ((bshr ((shaH b).getD i 0) 16) % 256)), (.int .u8 ((bshr ((shaH b).getD i 0) 8) % 256)), (.int .u8 (((shaH b).getD i 0) % 256))]) (ss := []) (d := (.ints .u8 [(bshr ((shaH b).getD i 0) 24) % 256, (bshr ((shaH b).getD i 0) 16) % 256, (bshr ((shaH b).getD i 0) 8) % 256, ((shaH b).getD i 0) % 256])) rfl rfl (lt_ok rfl) (by kernel_rfl) rfl rfl (.cons rfl (.cons rfl (.cons rfl (.cons rfl .nil)))) (by simp) (le_ok rfl) (le_ok rfl) rfl (.val rfl (.val rfl (.val rfl (.val rfl .nil)))) rfl (by simp) (by simp) rfl trivial rfl rfl) ?_
     refine TL.c (Step.append (e := 5) (z := 1) (by_ := 1) (d := (.ints .u8 (outB (shaH b) i))) (dy := (.ints .u8 [(bshr ((shaH b).getD i 0) 24) % 256, (bshr ((shaH b).getD i 0) 16) % 256, (bshr ((shaH b).getD i 0) 8) % 256, ((shaH b).getD i 0) % 256])) (d' := (.ints .u8 ((outB (shaH b) i) ++ [(bshr ((shaH b).getD i 0) 24) % 256, (bshr ((shaH b).getD i 0) 16) % 256, (bshr ((shaH b).getD i 0) 8) % 256, ((shaH b).getD i 0) % 256]))) (ss := []) rfl rfl (lt_ok rfl) (by kernel_rfl) rfl rfl rfl (lt_ok rfl) rfl (.copy rfl rfl rfl (by simp [D.flat, D.val])) (by simp) rfl (by simp only [D.size, List.length_map]; first | omega | (simp only [List.length_append, List.length_cons, List.length_nil]; omega) | (simp; omega) | (simp only [List.length_append] at *; omega)) (by simp only [D.size, List.length_map]; first | omega | (simp only [List.length_append, List.length_cons, List.length_nil]; omega) | (simp; omega) | (simp only [List.length_append] at *; omega)) (by simp)) ?_
     refine TL.as (.one (.row 25 [])) ?_
     refine TL.nil ?_
     refine T.region ?_
     refine TL.c (Step.bin (r := .int .i64 ((i : Int) + 1)) rfl rfl (lt_ok rfl) rfl rfl (Bin.add (a := (i : Int)) (b := 1) (by first | exact wrap_ok (by first | omega | (simp; omega)) (by first | omega | (simp; omega)) | rfl))) ?_
     refine TL.mv (pI ((i : Int) + 1)) ?_
     refine TL.nil ?_
     refine ⟨i + 1, by omega, by first | omega | (dsimp only; omega), Env.le_mk ⟨rfl, rfl, rfl, ?_, rfl, trivial⟩ ⟨rfl, ?_, trivial⟩ trivial⟩ <;> (first | rfl | (refine congrArg (fun x => some (_, D.ints .i64 x)) ?_; unfold shaH; rw [show i = (shaPad b).length / 64 from by omega]) | (refine congrArg (fun n => PV.one (.d (.int .i64 n))) ?_; first | rfl | omega | (unfold shaH; rw [show i = (shaPad b).length / 64 from by omega]; first | done | rfl) | (simp; done)))
    ·
     replace h4 := of_decide_eq_false h4
     refine T.exit ?_
     refine T.seq ?_
     refine T.region ?_
     refine TL.mv (.one (.row 25 [])) ?_
     refine TL.as (.one (.row 25 [])) ?_
     refine TL.nil ?_
     refine T.ret ?_
     refine ⟨[(false, [.row 25 []])], (.cons rfl .nil), rfl, [25], (RetC.own' rfl ?_ rfl .nil)⟩ <;> ((congr 1; unfold sha; rw [show i = (shaH b).length from by omega]))
theorem ok_spec_LeafHash (x : List Int) (h0_ : U8s x) (h1_ : x.length ≤ 17592186030000) : RO Try.prog 109 [.one (.ints .u8 x)] [(false, [.own 5 (.ints .u8 (leafHash x))])] := by
 refine RO.intro Try.func109 rfl 7 rfl (le_ok rfl) fun w Z => ?_
 refine T.bnd 0 0 rfl rfl fun hb_0_0 => ?_
 simp only [D.size, List.length_map] at hb_0_0
 refine T.seq ?_
 refine T.region ?_
 refine TL.as (.one (.nil)) ?_
 refine TL.nil ?_
 refine T.seq ?_
 refine T.region ?_
 refine TL.c (Step.lit (e := 5) (z := 1) (by_ := 1) (xs := [.const (.int .u8 0)]) (pss := [[.d (.int .u8 0)]]) (es := [(.int .u8 0)]) (ss := []) (d := (.ints .u8 [0])) rfl rfl (lt_ok rfl) (by kernel_rfl) rfl rfl (.cons rfl .nil) (by simp) (le_ok rfl) (le_ok rfl) rfl (.val rfl .nil) rfl (by simp) (by simp) rfl trivial rfl rfl) ?_
 refine TL.mv (pS x) ?_
 refine TL.c (Step.append (e := 5) (z := 1) (by_ := 1) (d := (.ints .u8 [0])) (dy := (.ints .u8 x)) (d' := (.ints .u8 ([0] ++ x))) (ss := []) rfl rfl (lt_ok rfl) (by kernel_rfl) rfl rfl rfl (lt_ok rfl) rfl (.froz rfl (by simp [D.flat, D.val])) (by simp) rfl (by simp only [D.size, List.length_map]; first | omega | (simp only [List.length_append, List.length_cons, List.length_nil]; omega) | (simp; omega) | (simp only [List.length_append] at *; omega)) (by simp only [D.size, List.length_map]; first | omega | (simp only [List.length_append, List.length_cons, List.length_nil]; omega) | (simp; omega) | (simp only [List.length_append] at *; omega)) (by simp)) ?_
 have nn1 := sha_len ([0] ++ x)
 have nn2 := sha_u8 ([0] ++ x)
 refine TL.c (Step.cl (xs := [.tmp 5]) (ps := [(.one (.row 3 []))]) (g := .func 101) false (.cons (.one (.row rfl rfl rfl rfl)) .nil) (ok_spec_Sha ([0] ++ x) (by first | assumption | exact sha_u8 _ | exact treeRoot_u8 _ | exact nodeHash_u8 _ _ | exact leafHash_u8 _ | exact u8_cons (by decide) (by assumption) | exact mem_getD (p := U8s) (by assumption) (by omega) | exact u8_app (u8_cons (by decide) (by assumption)) (by assumption) | exact fun x hx => by cases hx | exact putHead_u8 u8_72 (by assumption)) (by first | omega | assumption | (simp only [List.length_append] at *; omega) | (simp; done) | (simp; omega)))) ?_
 refine TL.as (.one (.row 1006 [])) ?_
 refine TL.nil ?_
 refine T.ret ?_
 refine ⟨[(false, [.row 1006 []])], (.cons rfl .nil), rfl, [1006], (RetC.own' rfl ?_ rfl .nil)⟩ <;> (rfl)
theorem ok_spec_SplitAt (n : Int) (h0_ : n ≤ 9223372036854775807) : RO Try.prog 115 [.one (.int .i64 n)] [(false, [.rd (.int .i64 (splitAtT n))])] := by
 refine RO.intro Try.func115 rfl 14 rfl (le_ok rfl) fun w Z => ?_
 refine T.seq ?_
 refine T.region ?_
 refine TL.as (pI 0) ?_
 refine TL.nil ?_
 refine T.seq ?_
 refine T.seq ?_
 refine T.region ?_
 refine TL.mv (pI n) ?_
 refine TL.c (Step.bin rfl rfl (lt_ok rfl) rfl rfl (Bin.lss (k := .i64) (a := n) (b := 2))) ?_
 refine TL.nil ?_
 refine T.cond (b := decide (n < 2)) rfl (fun h1 => ?_) (fun h1 => ?_)
 ·
  replace h1 := of_decide_eq_true h1
  refine T.seq ?_
  refine T.region ?_
  refine TL.as (pI 0) ?_
  refine TL.nil ?_
  refine T.ret ?_
  refine ⟨[(false, [cI 0])], (.cons rfl .nil), rfl, [], (RetC.rd' ?_ .nil)⟩ <;> ((congr 1; unfold splitAtT; first | (rw [if_pos (by omega)]; done) | (rw [if_neg (by omega)]; rw [if_neg (by omega)] at hx4; exact hx4) | (rw [if_neg (by omega)]; omega)))
 ·
  replace h1 := of_decide_eq_false h1
  refine T.skip ?_
  refine T.seq ?_
  refine T.region ?_
  refine TL.as (pI 1) ?_
  refine TL.nil ?_
  refine T.seq ?_
  refine T.block ?_
  refine T.loop (ι := Nat × Int) (fun xx_ => { tm := [(0, (pI n)), (2, (pI 0)), (3, (pI (xx_.2)))], rows := [], boxes := [] }) (fun xx_ => 1 ≤ (xx_.2) ∧ (xx_.2) < n ∧ n ≤ (xx_.2) + (xx_.1) ∧ splitGo (xx_.1) n (xx_.2) = splitAt n) (fun xx_ => (xx_.1)) (n.toNat, 1) ?_ ?_ ?_
  · refine Env.le_mk ⟨rfl, rfl, ?_, trivial⟩ trivial trivial <;> (first | rfl | (refine congrArg (fun n => PV.one (.d (.int .i64 n))) ?_; rfl))
  · (dsimp only; refine ⟨by omega, by omega, by omega, rfl⟩)
  ·
   intro xx_ hx
   obtain ⟨d, x⟩ := xx_
   try dsimp only at hx ⊢
   obtain ⟨hx1, hx2, hx3, hx4⟩ := hx
   obtain ⟨d', rfl⟩ : ∃ d', d = d' + 1 := ⟨d - 1, by omega⟩
   unfold splitGo at hx4
   refine T.seq ?_
   refine T.seq ?_
   refine T.region ?_
   refine TL.mv (pI x) ?_
   refine TL.mv (pI n) ?_
   refine TL.mv (pI x) ?_
   refine TL.c (Step.bin (r := .int .i64 (n - x)) rfl rfl (lt_ok rfl) rfl rfl (Bin.sub (a := n) (b := x) (by first | exact wrap_ok (by first | omega | (simp; omega)) (by first | omega | (simp; omega)) | rfl))) ?_
   refine TL.c (Step.bin rfl rfl (lt_ok rfl) rfl rfl (Bin.lss (k := .i64) (a := x) (b := (n - x)))) ?_
   refine TL.nil ?_
   refine T.cond (b := decide (x < (n - x))) rfl (fun h2 => ?_) (fun h2 => ?_)
   ·
    replace h2 := of_decide_eq_true h2
    refine T.skip ?_
    refine T.block ?_
    refine T.region ?_
    refine TL.mv (pI x) ?_
    refine TL.c (Step.bin (r := .int .i64 (2 * x)) rfl rfl (lt_ok rfl) rfl rfl (Bin.mul (a := 2) (b := x) (by first | exact wrap_ok (by first | omega | (simp; omega)) (by first | omega | (simp; omega)) | rfl))) ?_
    refine TL.as (pI (2 * x)) ?_
    refine TL.nil ?_
    refine ⟨(d', 2 * x), by (try dsimp only); (rw [if_pos (by omega)] at hx4; refine ⟨by omega, by omega, by omega, ?_⟩; first | exact hx4 | (rw [Int.mul_comm]; exact hx4)), by (dsimp only; omega), Env.le_mk ⟨rfl, rfl, ?_, trivial⟩ trivial trivial⟩ <;> (first | rfl | (refine congrArg (fun n => PV.one (.d (.int .i64 n))) ?_; rfl))
   ·
    replace h2 := of_decide_eq_false h2
    refine T.exit ?_
    refine T.seq ?_
    refine T.region ?_
    refine TL.mv (pI x) ?_
    refine TL.as (pI x) ?_
    refine TL.nil ?_
    refine T.ret ?_
    refine ⟨[(false, [cI x])], (.cons rfl .nil), rfl, [], (RetC.rd' ?_ .nil)⟩ <;> ((congr 1; unfold splitAtT; first | (rw [if_pos (by omega)]; done) | (rw [if_neg (by omega)]; rw [if_neg (by omega)] at hx4; exact hx4) | (rw [if_neg (by omega)]; omega)))
theorem ok_spec_NodeHash (a : List Int) (b : List Int) (h0_ : U8s a) (h1_ : U8s b) (h2_ : a.length ≤ 1048576) (h3_ : b.length ≤ 1048576) : RO Try.prog 170 [.one (.ints .u8 a), .one (.ints .u8 b)] [(false, [.own 5 (.ints .u8 (nodeHash a b))])] := by
 refine RO.intro Try.func170 rfl 13 rfl (le_ok rfl) fun w Z => ?_
 refine T.bnd 0 0 rfl rfl fun hb_0_0 => ?_
 simp only [D.size, List.length_map] at hb_0_0
 refine T.bnd 1 0 rfl rfl fun hb_1_0 => ?_
 simp only [D.size, List.length_map] at hb_1_0
 refine T.seq ?_
 refine T.region ?_
 refine TL.as (.one (.nil)) ?_
 refine TL.nil ?_
 refine T.seq ?_
 refine T.region ?_
 refine TL.c (Step.lit (e := 5) (z := 1) (by_ := 1) (xs := [.const (.int .u8 1)]) (pss := [[.d (.int .u8 1)]]) (es := [(.int .u8 1)]) (ss := []) (d := (.ints .u8 [1])) rfl rfl (lt_ok rfl) (by kernel_rfl) rfl rfl (.cons rfl .nil) (by simp) (le_ok rfl) (le_ok rfl) rfl (.val rfl .nil) rfl (by simp) (by simp) rfl trivial rfl rfl) ?_
 refine TL.mv (pS a) ?_
 refine TL.c (Step.append (e := 5) (z := 1) (by_ := 1) (d := (.ints .u8 [1])) (dy := (.ints .u8 a)) (d' := (.ints .u8 ([1] ++ a))) (ss := []) rfl rfl (lt_ok rfl) (by kernel_rfl) rfl rfl rfl (lt_ok rfl) rfl (.froz rfl (by simp [D.flat, D.val])) (by simp) rfl (by simp only [D.size, List.length_map]; first | omega | (simp only [List.length_append, List.length_cons, List.length_nil]; omega) | (simp; omega) | (simp only [List.length_append] at *; omega)) (by simp only [D.size, List.length_map]; first | omega | (simp only [List.length_append, List.length_cons, List.length_nil]; omega) | (simp; omega) | (simp only [List.length_append] at *; omega)) (by simp)) ?_
 refine TL.as (.one (.row 6 [])) ?_
 refine TL.nil ?_
 refine T.seq ?_
 refine T.region ?_
 refine TL.mv (.one (.row 6 [])) ?_
 refine TL.mv (pS b) ?_
 refine TL.c (Step.append (e := 5) (z := 1) (by_ := 1) (d := (.ints .u8 ([1] ++ a))) (dy := (.ints .u8 b)) (d' := (.ints .u8 (([1] ++ a) ++ b))) (ss := []) rfl rfl (lt_ok rfl) (by kernel_rfl) rfl rfl rfl (lt_ok rfl) rfl (.froz rfl (by simp [D.flat, D.val])) (by simp) rfl (by simp only [D.size, List.length_map]; first | omega | (simp only [List.length_append, List.length_cons, List.length_nil]; omega) | (simp; omega) | (simp only [List.length_append] at *; omega)) (by simp only [D.size, List.length_map]; first | omega | (simp only [List.length_append, List.length_cons, List.length_nil]; omega) | (simp; omega) | (simp only [List.length_append] at *; omega)) (by simp)) ?_
 have nn1 := sha_len (([1] ++ a) ++ b)
 have nn2 := sha_u8 (([1] ++ a) ++ b)
 refine TL.c (Step.cl (xs := [.tmp 11]) (ps := [(.one (.row 6 []))]) (g := .func 101) false (.cons (.one (.row rfl rfl rfl rfl)) .nil) (ok_spec_Sha (([1] ++ a) ++ b) (by first | assumption | exact sha_u8 _ | exact treeRoot_u8 _ | exact nodeHash_u8 _ _ | exact leafHash_u8 _ | exact u8_cons (by decide) (by assumption) | exact mem_getD (p := U8s) (by assumption) (by omega) | exact u8_app (u8_cons (by decide) (by assumption)) (by assumption) | exact fun x hx => by cases hx | exact putHead_u8 u8_72 (by assumption)) (by first | omega | assumption | (simp only [List.length_append] at *; omega) | (simp; done) | (simp; omega)))) ?_
 refine TL.as (.one (.row 1012 [])) ?_
 refine TL.nil ?_
 refine T.ret ?_
 refine ⟨[(false, [.row 1012 []])], (.cons rfl .nil), rfl, [1012], (RetC.own' rfl ?_ rfl .nil)⟩ <;> (rfl)
theorem ok_spec_TreeRoot_r (d_ : Nat) : ∀ (l : List (List Int)) (hd_ : l.length = d_) (h0_ : ∀ y ∈ l, U8s y) (h1_ : ∀ y ∈ l, y.length ≤ 1048576), RO Try.prog 116 [.one (.bss l)] [(false, [.own 5 (.ints .u8 (treeRoot l))])] := by
 refine Nat.strongRecOn d_ ?_
 intro d_ ih l hd_ h0_ h1_
 subst hd_
 refine RO.intro Try.func116 rfl 27 rfl (le_ok rfl) fun w Z => ?_
 refine T.bnd 0 0 rfl rfl fun hb_0_0 => ?_
 simp only [D.size, List.length_map] at hb_0_0
 have hsb_ := splitAtT_bd (l.length : Int)
 have hsl_ := splitAtT_le (l.length : Int)
 have hpt_ := part_len l
 have hy_ := mem_len h1_ 0
 refine T.seq ?_
 refine T.region ?_
 refine TL.as (.one (.nil)) ?_
 refine TL.nil ?_
 refine T.seq ?_
 refine T.seq ?_
 refine T.region ?_
 refine TL.mv (.one (.d (.bss l))) ?_
 refine TL.c (Step.len (e := 24) (z := 1) (d := (.bss l)) rfl rfl (lt_ok rfl) (by kernel_rfl) rfl rfl) ?_
 refine TL.c (Step.bin rfl rfl (lt_ok rfl) rfl rfl (Bin.eql (k := .i64) (a := (l.length : Int)) (b := 0))) ?_
 refine TL.nil ?_
 refine T.cond (b := decide ((l.length : Int) = 0)) rfl (fun h1 => ?_) (fun h1 => ?_)
 ·
  replace h1 := of_decide_eq_true h1
  refine T.seq ?_
  refine T.region ?_
  have nn2 := sha_len []
  have nn3 := sha_u8 []
  refine TL.c (Step.cl (xs := [.const (.slice none 0 0)]) (ps := [(.one (.nil))]) (g := .func 101) false (.cons (.one (.nil rfl rfl (by first | exact trivial | exact D.wf_nil _))) .nil) (ok_spec_Sha [] (by first | assumption | exact sha_u8 _ | exact treeRoot_u8 _ | exact nodeHash_u8 _ _ | exact leafHash_u8 _ | exact u8_cons (by decide) (by assumption) | exact mem_getD (p := U8s) (by assumption) (by omega) | exact u8_app (u8_cons (by decide) (by assumption)) (by assumption) | exact fun x hx => by cases hx | exact putHead_u8 u8_72 (by assumption)) (by first | omega | assumption | (simp only [List.length_append] at *; omega) | (simp; done) | (simp; omega)))) ?_
  refine TL.as (.one (.row 1007 [])) ?_
  refine TL.nil ?_
  refine T.ret ?_
  refine ⟨[(false, [.row 1007 []])], (.cons rfl .nil), rfl, [1007], (RetC.own' rfl ?_ rfl .nil)⟩ <;> ((congr 1; first | (rw [treeRoot_nil (l := l) (by omega)]; done) | (rw [treeRoot_one (l := l) (by omega)]; done) | (rw [treeRoot_two (l := l) (by omega) (by omega)]; done)))
 ·
  replace h1 := of_decide_eq_false h1
  refine T.skip ?_
  refine T.seq ?_
  refine T.seq ?_
  refine T.region ?_
  refine TL.mv (.one (.d (.bss l))) ?_
  refine TL.c (Step.len (e := 24) (z := 1) (d := (.bss l)) rfl rfl (lt_ok rfl) (by kernel_rfl) rfl rfl) ?_
  refine TL.c (Step.bin rfl rfl (lt_ok rfl) rfl rfl (Bin.eql (k := .i64) (a := (l.length : Int)) (b := 1))) ?_
  refine TL.nil ?_
  refine T.cond (b := decide ((l.length : Int) = 1)) rfl (fun h4 => ?_) (fun h4 => ?_)
  ·
   replace h4 := of_decide_eq_true h4
   refine T.seq ?_
   refine T.region ?_
   refine TL.mv (.one (.d (.bss l))) ?_
   refine TL.c (Step.index (e := 24) (z := 1) (i := 0) rfl rfl (lt_ok rfl) (by kernel_rfl) rfl rfl rfl (lt_ok rfl) rfl (by first | omega | (simp; omega)) (by simp only [D.size]; first | omega | (simp; omega))) ?_
   refine TL.c (Step.load (e := (.ints .u8 (l.getD 0 []))) rfl rfl (lt_ok rfl) (by kernel_rfl) rfl rfl) ?_
   have nn5 := leafHash_len (l.getD 0 [])
   have nn6 := leafHash_u8 (l.getD 0 [])
   refine TL.c (Step.cl (xs := [.tmp 13]) (ps := [(pS (l.getD 0 []))]) (g := .func 109) false (.cons (.one (.d _)) .nil) (ok_spec_LeafHash (l.getD 0 []) (by first | assumption | exact sha_u8 _ | exact treeRoot_u8 _ | exact nodeHash_u8 _ _ | exact leafHash_u8 _ | exact u8_cons (by decide) (by assumption) | exact mem_getD (p := U8s) (by assumption) (by omega) | exact u8_app (u8_cons (by decide) (by assumption)) (by assumption) | exact fun x hx => by cases hx) (by first | omega | assumption | (simp only [List.length_append] at *; omega)))) ?_
   refine TL.as (.one (.row 1014 [])) ?_
   refine TL.nil ?_
   refine T.ret ?_
   refine ⟨[(false, [.row 1014 []])], (.cons rfl .nil), rfl, [1014], (RetC.own' rfl ?_ rfl .nil)⟩ <;> ((congr 1; first | (rw [treeRoot_nil (l := l) (by omega)]; done) | (rw [treeRoot_one (l := l) (by omega)]; done) | (rw [treeRoot_two (l := l) (by omega) (by omega)]; done)))
  ·
   replace h4 := of_decide_eq_false h4
   refine T.skip ?_
   refine T.seq ?_
   refine T.region ?_
   refine TL.mv (.one (.d (.bss l))) ?_
   refine TL.c (Step.len (e := 24) (z := 1) (d := (.bss l)) rfl rfl (lt_ok rfl) (by kernel_rfl) rfl rfl) ?_
   have nn7 := splitAtT_bd (l.length : Int)
   refine TL.c (Step.cl (xs := [.tmp 16]) (ps := [(pI (l.length : Int))]) (g := .func 115) false (.cons (.one (.d _)) .nil) (ok_spec_SplitAt (l.length : Int) (by first | omega | assumption | (simp only [List.length_append] at *; omega)))) ?_
   refine TL.as (pI (splitAtT (l.length : Int))) ?_
   refine TL.nil ?_
   refine T.seq ?_
   have nn8 := treeRoot_len ((l.drop 0).take ((splitAtT (l.length : Int)).toNat - 0))
   have nn9 := treeRoot_u8 ((l.drop 0).take ((splitAtT (l.length : Int)).toNat - 0))
   have nn10 := treeRoot_len ((l.drop (splitAtT (l.length : Int)).toNat).take (l.length - (splitAtT (l.length : Int)).toNat))
   have nn11 := treeRoot_u8 ((l.drop (splitAtT (l.length : Int)).toNat).take (l.length - (splitAtT (l.length : Int)).toNat))
   have nn12 := nodeHash_len (treeRoot ((l.drop 0).take ((splitAtT (l.length : Int)).toNat - 0))) (treeRoot ((l.drop (splitAtT (l.length : Int)).toNat).take (l.length - (splitAtT (l.length : Int)).toNat)))
   have nn13 := nodeHash_u8 (treeRoot ((l.drop 0).take ((splitAtT (l.length : Int)).toNat - 0))) (treeRoot ((l.drop (splitAtT (l.length : Int)).toNat).take (l.length - (splitAtT (l.length : Int)).toNat)))
   refine T.draw [⟨18, (.one (.d (.bss l))), []⟩, ⟨19, (pI (splitAtT (l.length : Int))), []⟩, ⟨20, (.one (.d (.bss ((l.drop 0).take ((splitAtT (l.length : Int)).toNat - 0))))), []⟩, ⟨21, (.one (.row 1021 [])), [(1021, (5, (.ints .u8 (treeRoot ((l.drop 0).take ((splitAtT (l.length : Int)).toNat - 0))))))]⟩, ⟨22, (.one (.d (.bss l))), []⟩, ⟨23, (pI (splitAtT (l.length : Int))), []⟩, ⟨24, (.one (.d (.bss ((l.drop (splitAtT (l.length : Int)).toNat).take (l.length - (splitAtT (l.length : Int)).toNat))))), []⟩, ⟨25, (.one (.row 1025 [])), [(1025, (5, (.ints .u8 (treeRoot ((l.drop (splitAtT (l.length : Int)).toNat).take (l.length - (splitAtT (l.length : Int)).toNat))))))]⟩, ⟨26, (.one (.row 1026 [])), [(1026, (5, (.ints .u8 (nodeHash (treeRoot ((l.drop 0).take ((splitAtT (l.length : Int)).toNat - 0))) (treeRoot ((l.drop (splitAtT (l.length : Int)).toNat).take (l.length - (splitAtT (l.length : Int)).toNat)))))))]⟩, ⟨2, (.one (.row 1026 [])), []⟩] (by kernel_rfl) (by kernel_rfl) ?_ ?_
   ·
    refine .cons (fun E A => A.mv 0 18) ?_
    refine .cons (fun E A => A.mv 3 19) ?_
    refine .cons (fun E A => OpStep.plain rfl (Step.slice (e := 24) (z := 1) (l := 0) (h := (splitAtT (l.length : Int)).toNat) (t := 20) rfl rfl (by exact lt_ok rfl) (by kernel_rfl) (A.g 18 rfl) rfl rfl (.none _) ((.some (i := (splitAtT (l.length : Int))) (A.g 19 rfl) (by first | omega | (simp; omega)))) (by first | omega | (simp; omega)) (by simp only [D.size]; first | omega | (simp; omega)) rfl)) ?_
    refine .cons (fun E A => OpStep.plain rfl (Step.call (f := 116) (xs := [.tmp 20]) (ps := [(.one (.d (.bss ((l.drop 0).take ((splitAtT (l.length : Int)).toNat - 0)))))]) false (g := .func 116) (t := 21) rfl rfl (by exact lt_ok rfl) rfl (by kernel_rfl) (evs_cons (A.g 20 rfl) (rfl)) (.cons (.one (.d _)) .nil) (ih ((l.drop 0).take ((splitAtT (l.length : Int)).toNat - 0)).length (by omega) ((l.drop 0).take ((splitAtT (l.length : Int)).toNat - 0)) rfl (by first | assumption | exact mem_sub (by assumption) _ _ | exact s0.2 | exact o1) (by first | assumption | exact mem_sub (by assumption) _ _ | exact s0.2 | exact s1.2)) (.inr rfl) (At.freshRows A rfl) (by simp) rfl)) ?_
    refine .cons (fun E A => A.mv 0 22) ?_
    refine .cons (fun E A => A.mv 3 23) ?_
    refine .cons (fun E A => OpStep.plain rfl (Step.slice (e := 24) (z := 1) (l := (splitAtT (l.length : Int)).toNat) (h := l.length) (t := 24) rfl rfl (by exact lt_ok rfl) (by kernel_rfl) (A.g 22 rfl) rfl rfl ((.some (i := (splitAtT (l.length : Int))) (A.g 23 rfl) (by first | omega | (simp; omega)))) (.none _) (by first | omega | (simp; omega)) (by simp only [D.size]; first | omega | (simp; omega)) rfl)) ?_
    refine .cons (fun E A => OpStep.plain rfl (Step.call (f := 116) (xs := [.tmp 24]) (ps := [(.one (.d (.bss ((l.drop (splitAtT (l.length : Int)).toNat).take (l.length - (splitAtT (l.length : Int)).toNat)))))]) false (g := .func 116) (t := 25) rfl rfl (by exact lt_ok rfl) rfl (by kernel_rfl) (evs_cons (A.g 24 rfl) (rfl)) (.cons (.one (.d _)) .nil) (ih ((l.drop (splitAtT (l.length : Int)).toNat).take (l.length - (splitAtT (l.length : Int)).toNat)).length (by omega) ((l.drop (splitAtT (l.length : Int)).toNat).take (l.length - (splitAtT (l.length : Int)).toNat)) rfl (by first | assumption | exact mem_sub (by assumption) _ _ | exact s0.2 | exact o1) (by first | assumption | exact mem_sub (by assumption) _ _ | exact s0.2 | exact s1.2)) (.inr rfl) (At.freshRows A rfl) (by simp) rfl)) ?_
    refine .cons (fun E A => OpStep.plain rfl (Step.cd (xs := [.tmp 21, .tmp 25]) (ps := [(.one (.row 1021 [])), (.one (.row 1025 []))]) (g := .func 170) false 26 (evs_cons (A.g 21 rfl) (evs_cons (A.g 25 rfl) (rfl))) (.cons (.one (.row rfl (by exact (A.row 1021 (by kernel_rfl)).trans rfl) rfl rfl)) (.cons (.one (.row rfl (by exact (A.row 1025 (by kernel_rfl)).trans rfl) rfl rfl)) .nil)) (ok_spec_NodeHash (treeRoot ((l.drop 0).take ((splitAtT (l.length : Int)).toNat - 0))) (treeRoot ((l.drop (splitAtT (l.length : Int)).toNat).take (l.length - (splitAtT (l.length : Int)).toNat))) (by first | assumption | exact sha_u8 _ | exact treeRoot_u8 _ | exact nodeHash_u8 _ _ | exact leafHash_u8 _ | exact u8_cons (by decide) (by assumption) | exact mem_getD (p := U8s) (by assumption) (by omega) | exact u8_app (u8_cons (by decide) (by assumption)) (by assumption) | exact fun x hx => by cases hx) (by first | assumption | exact sha_u8 _ | exact treeRoot_u8 _ | exact nodeHash_u8 _ _ | exact leafHash_u8 _ | exact u8_cons (by decide) (by assumption) | exact mem_getD (p := U8s) (by assumption) (by omega) | exact u8_app (u8_cons (by decide) (by assumption)) (by assumption) | exact fun x hx => by cases hx) (by first | omega | assumption | (simp only [List.length_append] at *; omega)) (by first | omega | assumption | (simp only [List.length_append] at *; omega))) (At.freshRows A rfl))) ?_
    refine .cons (fun E A => A.as 26 2) ?_
    exact .nil _ _
   refine TL.nil ?_
   refine T.ret ?_
   refine ⟨[(false, [.row 1026 []])], (.cons rfl .nil), rfl, [1026], (RetC.own' rfl ?_ rfl .nil)⟩ <;> ((congr 1; first | (rw [treeRoot_nil (l := l) (by omega)]; done) | (rw [treeRoot_one (l := l) (by omega)]; done) | (rw [treeRoot_two (l := l) (by omega) (by omega)]; done)))
theorem ok_spec_TreeRoot (l : List (List Int)) (h0_ : ∀ y ∈ l, U8s y) (h1_ : ∀ y ∈ l, y.length ≤ 1048576) : RO Try.prog 116 [.one (.bss l)] [(false, [.own 5 (.ints .u8 (treeRoot l))])] := ok_spec_TreeRoot_r _ l rfl h0_ h1_
theorem ok_spec_BlockOk (l : SLimits) (x : SBlock) (h0_ : x.ok) (h1_ : x.sm) : RO Try.prog 82 [.agg l.cells, .agg x.cells] [(false, [.rd (.bool (blockOk l x))])] := by
 refine RO.intro Try.func82 rfl 40 rfl (le_ok rfl) fun w Z => ?_
 refine T.bnd 1 3 rfl rfl fun hb_1_3 => ?_
 simp only [D.size, List.length_map] at hb_1_3
 refine T.bnd 1 4 rfl rfl fun hb_1_4 => ?_
 simp only [D.size, List.length_map] at hb_1_4
 refine T.bnd 1 7 rfl rfl fun hb_1_7 => ?_
 simp only [D.size, List.length_map] at hb_1_7
 refine T.bnd 1 8 rfl rfl fun hb_1_8 => ?_
 simp only [D.size, List.length_map] at hb_1_8
 refine T.bnd 1 9 rfl rfl fun hb_1_9 => ?_
 simp only [D.size, List.length_map] at hb_1_9
 refine T.bnd 1 10 rfl rfl fun hb_1_10 => ?_
 simp only [D.size, List.length_map] at hb_1_10
 have hok_ := h0_
 have hsm_ := h1_
 obtain ⟨o0, o1⟩ := h0_
 obtain ⟨s0, s1⟩ := h1_
 have hrt_ := treeRoot_u8 x.f1
 have ho4_ := o0.2.2.2.2.1
 refine T.seq ?_
 refine T.region ?_
 refine TL.c (Step.box (p := (.agg [cI l.f0, cI l.f1, cI l.f2, cI l.f3, cI l.f4])) (ps := [cI l.f0, cI l.f1, cI l.f2, cI l.f3, cI l.f4]) rfl rfl (lt_ok rfl) rfl rfl rfl rfl rfl) ?_
 refine TL.c (Step.box (p := (.agg [cI x.f0.f0, cI x.f0.f1, cI x.f0.f2, cS x.f0.f3, cS x.f0.f4, cI x.f0.f5.f0, cI x.f0.f5.f1, cS x.f0.f5.f2, cS x.f0.f5.f3, .d (.bss x.f0.f5.f4), .d (.bss x.f1)])) (ps := [cI x.f0.f0, cI x.f0.f1, cI x.f0.f2, cS x.f0.f3, cS x.f0.f4, cI x.f0.f5.f0, cI x.f0.f5.f1, cS x.f0.f5.f2, cS x.f0.f5.f3, .d (.bss x.f0.f5.f4), .d (.bss x.f1)]) rfl rfl (lt_ok rfl) rfl rfl rfl rfl rfl) ?_
 refine TL.as (pB false) ?_
 refine TL.nil ?_
 refine T.seq ?_
 refine T.seq ?_
 refine T.region ?_
 refine TL.c (Step.load_box_agg (n := 5) (qs := [cI l.f0, cI l.f1, cI l.f2, cI l.f3, cI l.f4]) rfl rfl (lt_ok rfl) (by kernel_rfl) rfl rfl rfl rfl) ?_
 refine TL.c (Step.fieldAddr (q := 0) (off := 0) (n := 10) (one := false) rfl rfl (lt_ok rfl) (by kernel_rfl) (Nat.succ_ne_zero _) rfl) ?_
 refine TL.c (Step.load_box_agg (n := 10) (qs := [cI x.f0.f0, cI x.f0.f1, cI x.f0.f2, cS x.f0.f3, cS x.f0.f4, cI x.f0.f5.f0, cI x.f0.f5.f1, cS x.f0.f5.f2, cS x.f0.f5.f3, .d (.bss x.f0.f5.f4)]) rfl rfl (lt_ok rfl) (by kernel_rfl) rfl rfl rfl rfl) ?_
 refine TL.c (Step.cl (xs := [.tmp 7, .tmp 9]) (ps := [(.agg [cI l.f0, cI l.f1, cI l.f2, cI l.f3, cI l.f4]), (.agg [cI x.f0.f0, cI x.f0.f1, cI x.f0.f2, cS x.f0.f3, cS x.f0.f4, cI x.f0.f5.f0, cI x.f0.f5.f1, cS x.f0.f5.f2, cS x.f0.f5.f3, .d (.bss x.f0.f5.f4)])]) (g := .func 104) false (.cons (.agg (.cons (.d _) (.cons (.d _) (.cons (.d _) (.cons (.d _) (.cons (.d _) .nil)))))) (.cons (.agg (.cons (.d _) (.cons (.d _) (.cons (.d _) (.cons (.d _) (.cons (.d _) (.cons (.d _) (.cons (.d _) (.cons (.d _) (.cons (.d _) (.cons (.d _) .nil))))))))))) .nil)) (ok_spec_HeadOk l x.f0 (by first | assumption | exact mem_getD o0 (by omega) | exact mem_getD h0_ (by omega)) (by first | assumption | exact mem_getD s0.2 (by omega) | exact mem_getD h1_ (by omega)))) ?_
 refine TL.c (Step.not (b := (headOk l x.f0)) rfl rfl (lt_ok rfl) rfl) ?_
 refine TL.mv (pB (!(headOk l x.f0))) ?_
 rcases Bool.eq_false_or_eq_true (!(headOk l x.f0)) with hb1 | hb1
 ·
  refine TL.known 12 hb1 rfl ?_
  have hb1' := hb1
  replace hb1' : (headOk l x.f0) = false := by simpa only [Bool.not_eq_true', Bool.not_eq_false'] using hb1'
  refine TL.gf 12 ?_
  refine TL.gf 12 ?_
  refine TL.gf 12 ?_
  refine TL.gf 12 ?_
  refine TL.gf 12 ?_
  refine TL.gf 12 ?_
  refine TL.pk true (pB true) ?_
  refine TL.nil ?_
  refine T.cond (b := true) rfl (fun h2_ => ?_) (fun h2_ => absurd h2_ (by simp))
  refine T.seq ?_
  refine T.region ?_
  refine TL.as (pB false) ?_
  refine TL.nil ?_
  refine T.ret ?_
  refine ⟨[(false, [.d (.bool false)])], (.cons rfl .nil), rfl, [], (RetC.rd' ?_ .nil)⟩ <;> ((congr 1; symm; first | (unfold blockOk; rw [txsOk_no (i := i) (by omega) (by omega)]; simp; done) | (rw [List.take_of_length_le (by omega)] at hx2; rw [blockOk_mk (by assumption) (by omega) hx2]; first | done | rfl | assumption | exact decide_eq_true ‹_› | exact decide_eq_false ‹_›) | (rw [List.take_of_length_le (by omega)] at hx2; simp_all [blockOk]; done) | (simp_all [blockOk]; done) | (rw [List.take_of_length_le (by omega)] at hx2; simp_all [blockOk]; omega) | (simp_all [blockOk]; omega)))
 ·
  refine TL.known 12 hb1 rfl ?_
  have hb1' := hb1
  replace hb1' : (headOk l x.f0) = true := by simpa only [Bool.not_eq_true', Bool.not_eq_false'] using hb1'
  refine TL.gy 12 (Step.fieldAddr (q := 0) (off := 10) (n := 1) (one := true) rfl rfl (lt_ok rfl) (by kernel_rfl) (Nat.succ_ne_zero _) rfl) ?_
  refine TL.gy 12 (Step.load_box (c := .d (.bss x.f1)) rfl rfl (lt_ok rfl) (by kernel_rfl) rfl rfl rfl) ?_
  refine TL.gy 12 (Step.len (e := 24) (z := 1) (d := (.bss x.f1)) rfl rfl (lt_ok rfl) (by kernel_rfl) rfl rfl) ?_
  refine TL.gy 12 (Step.fieldAddr (q := 0) (off := 2) (n := 1) (one := true) rfl rfl (lt_ok rfl) (by kernel_rfl) (Nat.succ_ne_zero _) rfl) ?_
  refine TL.gy 12 (Step.load_box (c := cI l.f2) rfl rfl (lt_ok rfl) (by kernel_rfl) rfl rfl rfl) ?_
  refine TL.gy 12 (Step.bin rfl rfl (lt_ok rfl) rfl rfl (Bin.gtr (k := .i64) (a := (x.f1.length : Int)) (b := l.f2))) ?_
  refine TL.pk false (pB (decide (l.f2 < (x.f1.length : Int)))) ?_
  refine TL.nil ?_
  refine T.cond (b := decide (l.f2 < (x.f1.length : Int))) rfl (fun h3 => ?_) (fun h3 => ?_)
  ·
   replace h3 := of_decide_eq_true h3
   refine T.seq ?_
   refine T.region ?_
   refine TL.as (pB false) ?_
   refine TL.nil ?_
   refine T.ret ?_
   refine ⟨[(false, [.d (.bool false)])], (.cons rfl .nil), rfl, [], (RetC.rd' ?_ .nil)⟩ <;> ((congr 1; symm; first | (unfold blockOk; rw [txsOk_no (i := i) (by omega) (by omega)]; simp; done) | (rw [List.take_of_length_le (by omega)] at hx2; rw [blockOk_mk (by assumption) (by omega) hx2]; first | done | rfl | assumption | exact decide_eq_true ‹_› | exact decide_eq_false ‹_›) | (rw [List.take_of_length_le (by omega)] at hx2; simp_all [blockOk]; done) | (simp_all [blockOk]; done) | (rw [List.take_of_length_le (by omega)] at hx2; simp_all [blockOk]; omega) | (simp_all [blockOk]; omega)))
  ·
   replace h3 := of_decide_eq_false h3
   refine T.skip ?_
   refine T.seq ?_
   refine T.seq ?_
   refine T.region ?_
   refine TL.c (Step.fieldAddr (q := 0) (off := 10) (n := 1) (one := true) rfl rfl (lt_ok rfl) (by kernel_rfl) (Nat.succ_ne_zero _) rfl) ?_
   refine TL.c (Step.load_box (c := .d (.bss x.f1)) rfl rfl (lt_ok rfl) (by kernel_rfl) rfl rfl rfl) ?_
   refine TL.c (Step.len (e := 24) (z := 1) (d := (.bss x.f1)) rfl rfl (lt_ok rfl) (by kernel_rfl) rfl rfl) ?_
   refine TL.mv (pI 0) ?_
   refine TL.nil ?_
   refine T.block ?_
   refine T.loop (ι := Nat) (fun xx_ => { tm := [(2, (.one (.ptr 2 0))), (3, (.one (.ptr 3 0))), (21, (.one (.d (.bss x.f1)))), (22, (pI (x.f1.length : Int))), (23, (pI (xx_ : Int)))], rows := [], boxes := [(2, (34, [cI l.f0, cI l.f1, cI l.f2, cI l.f3, cI l.f4])), (3, (56, [cI x.f0.f0, cI x.f0.f1, cI x.f0.f2, cS x.f0.f3, cS x.f0.f4, cI x.f0.f5.f0, cI x.f0.f5.f1, cS x.f0.f5.f2, cS x.f0.f5.f3, .d (.bss x.f0.f5.f4), .d (.bss x.f1)]))] }) (fun xx_ => xx_ ≤ x.f1.length ∧ txsOk l (x.f1.take xx_) = true) (fun xx_ => x.f1.length - xx_) 0 ?_ ?_ ?_
   · refine Env.le_mk ⟨rfl, rfl, rfl, rfl, ?_, trivial⟩ trivial ⟨rfl, rfl, trivial⟩ <;> (first | rfl | (simp; done) | (congr 3; omega))
   · exact ⟨Nat.zero_le _, by rw [List.take_zero]; rfl⟩
   ·
    intro i hx
    try dsimp only at hx ⊢
    obtain ⟨hx1, hx2⟩ := hx
    refine T.seq ?_
    refine T.region ?_
    refine TL.c (Step.bin rfl rfl (lt_ok rfl) rfl rfl (Bin.lss (k := .i64) (a := (i : Int)) (b := (x.f1.length : Int)))) ?_
    refine TL.nil ?_
    refine T.seq ?_
    refine T.cond (b := decide ((i : Int) < (x.f1.length : Int))) rfl (fun h4 => ?_) (fun h4 => ?_)
    ·
     replace h4 := of_decide_eq_true h4
     refine T.skip ?_
     refine T.seq ?_
     refine T.block ?_
     refine T.seq ?_
     refine T.region ?_
     refine TL.c (Step.index (e := 24) (z := 1) (i := (i : Int)) rfl rfl (lt_ok rfl) (by kernel_rfl) rfl rfl rfl (lt_ok rfl) rfl (by first | omega | (simp; omega)) (by simp only [D.size]; first | omega | (simp; omega))) ?_
     refine TL.c (Step.load (e := (.ints .u8 (x.f1.getD i []))) rfl rfl (lt_ok rfl) (by kernel_rfl) rfl rfl) ?_
     refine TL.as (pS (x.f1.getD i [])) ?_
     refine TL.nil ?_
     refine T.seq ?_
     refine T.region ?_
     refine TL.mv (pS (x.f1.getD i [])) ?_
     refine TL.c (Step.len (e := 5) (z := 1) (d := (.ints .u8 (x.f1.getD i []))) rfl rfl (lt_ok rfl) (by kernel_rfl) rfl rfl) ?_
     refine TL.c (Step.fieldAddr (q := 0) (off := 1) (n := 1) (one := true) rfl rfl (lt_ok rfl) (by kernel_rfl) (Nat.succ_ne_zero _) rfl) ?_
     refine TL.c (Step.load_box (c := cI l.f1) rfl rfl (lt_ok rfl) (by kernel_rfl) rfl rfl rfl) ?_
     refine TL.c (Step.bin rfl rfl (lt_ok rfl) rfl rfl (Bin.gtr (k := .i64) (a := ((x.f1.getD i []).length : Int)) (b := l.f1))) ?_
     refine TL.nil ?_
     refine T.cond (b := decide (l.f1 < ((x.f1.getD i []).length : Int))) rfl (fun h5 => ?_) (fun h5 => ?_)
     ·
      replace h5 := of_decide_eq_true h5
      refine T.seq ?_
      refine T.region ?_
      refine TL.as (pB false) ?_
      refine TL.nil ?_
      refine T.ret ?_
      refine ⟨[(false, [.d (.bool false)])], (.cons rfl .nil), rfl, [], (RetC.rd' ?_ .nil)⟩ <;> ((congr 1; symm; first | (unfold blockOk; rw [txsOk_no (i := i) (by omega) (by omega)]; simp; done) | (rw [List.take_of_length_le (by omega)] at hx2; rw [blockOk_mk (by assumption) (by omega) hx2]; first | done | rfl | assumption | exact decide_eq_true ‹_› | exact decide_eq_false ‹_›) | (rw [List.take_of_length_le (by omega)] at hx2; simp_all [blockOk]; done) | (simp_all [blockOk]; done) | (rw [List.take_of_length_le (by omega)] at hx2; simp_all [blockOk]; omega) | (simp_all [blockOk]; omega)))
     ·
      replace h5 := of_decide_eq_false h5
      refine T.skip ?_
      refine T.region ?_
      refine TL.c (Step.bin (r := .int .i64 ((i : Int) + 1)) rfl rfl (lt_ok rfl) rfl rfl (Bin.add (a := (i : Int)) (b := 1) (by first | exact wrap_ok (by first | omega | (simp; omega)) (by first | omega | (simp; omega)) | rfl))) ?_
      refine TL.mv (pI ((i : Int) + 1)) ?_
      refine TL.nil ?_
      refine ⟨i + 1, by (refine ⟨by omega, txsOk_step (by omega) hx2 (by omega)⟩), by first | omega | (dsimp only; omega), Env.le_mk ⟨rfl, rfl, rfl, rfl, ?_, trivial⟩ trivial ⟨rfl, rfl, trivial⟩⟩ <;> (first | rfl | (simp; done) | (congr 3; omega))
    ·
     replace h4 := of_decide_eq_false h4
     refine T.exit ?_
     refine T.seq ?_
     have nn6 := treeRoot_len x.f1
     have nn7 := treeRoot_u8 x.f1
     refine T.draw [⟨33, (.one (.ptr 3 0)), []⟩, ⟨34, (.one (.ptr 3 4)), []⟩, ⟨35, (pS x.f0.f4), []⟩, ⟨36, (.one (.ptr 3 10)), []⟩, ⟨37, (.one (.d (.bss x.f1))), []⟩, ⟨38, (.one (.row 1038 [])), [(1038, (5, (.ints .u8 (treeRoot x.f1))))]⟩, ⟨39, (pB (decide (x.f0.f4 = (treeRoot x.f1)))), []⟩, ⟨4, (pB (decide (x.f0.f4 = (treeRoot x.f1)))), []⟩] (by kernel_rfl) (by kernel_rfl) ?_ ?_
     ·
      refine .cons (fun E A => OpStep.plain rfl (Step.fa (off := 0) (n := 10) (one := false) 0 33 (A.g 3 rfl))) ?_
      refine .cons (fun E A => OpStep.plain rfl (Step.fa (off := 4) (n := 1) (one := true) 0 34 (A.g 33 rfl))) ?_
      refine .cons (fun E A => OpStep.plain rfl (Step.load_box (c := cS x.f0.f4) (t := 35) rfl rfl (by exact lt_ok rfl) (by kernel_rfl) (A.g 34 rfl) (by exact A.box rfl) rfl)) ?_
      refine .cons (fun E A => OpStep.plain rfl (Step.fa (off := 10) (n := 1) (one := true) 0 36 (A.g 3 rfl))) ?_
      refine .cons (fun E A => OpStep.plain rfl (Step.load_box (c := .d (.bss x.f1)) (t := 37) rfl rfl (by exact lt_ok rfl) (by kernel_rfl) (A.g 36 rfl) (by exact A.box rfl) rfl)) ?_
      refine .cons (fun E A => OpStep.plain rfl (Step.cd (xs := [.tmp 37]) (ps := [(.one (.d (.bss x.f1)))]) (g := .func 116) false 38 (evs_cons (A.g 37 rfl) (rfl)) (.cons (.one (.d _)) .nil) (ok_spec_TreeRoot x.f1 (by first | assumption | exact mem_sub (by assumption) _ _ | exact s0.2 | exact o1) (by first | assumption | exact mem_sub (by assumption) _ _ | exact s0.2 | exact s1.2)) (At.freshRows A rfl))) ?_
      refine .cons (fun E A => OpStep.plain rfl (Step.cd (xs := [.tmp 35, .tmp 38]) (ps := [(pS x.f0.f4), (.one (.row 1038 []))]) (g := .func 105) false 39 (evs_cons (A.g 35 rfl) (evs_cons (A.g 38 rfl) (rfl))) (.cons (.one (.d _)) (.cons (.one (.row rfl (by exact (A.row 1038 (by kernel_rfl)).trans rfl) rfl rfl)) .nil)) (ok_spec_SameBytes x.f0.f4 (treeRoot x.f1) (by first | assumption | exact s1.2 | exact o1 | omega) (by first | assumption | exact s1.2 | exact o1 | omega)) (At.freshRows A rfl))) ?_
      refine .cons (fun E A => A.as 39 4) ?_
      exact .nil _ _
     refine TL.nil ?_
     refine T.ret ?_
     refine ⟨[(false, [.d (.bool (decide (x.f0.f4 = (treeRoot x.f1))))])], (.cons rfl .nil), rfl, [], (RetC.rd' ?_ .nil)⟩ <;> ((congr 1; symm; first | (unfold blockOk; rw [txsOk_no (i := i) (by omega) (by omega)]; simp; done) | (rw [List.take_of_length_le (by omega)] at hx2; rw [blockOk_mk (by assumption) (by omega) hx2]; first | done | rfl | assumption | exact decide_eq_true ‹_› | exact decide_eq_false ‹_›) | (rw [List.take_of_length_le (by omega)] at hx2; simp_all [blockOk]; done) | (simp_all [blockOk]; done) | (rw [List.take_of_length_le (by omega)] at hx2; simp_all [blockOk]; omega) | (simp_all [blockOk]; omega)))
theorem ok_spec_PutText (b : List Int) (x : List Int) (h0_ : b.length ≤ 8796093022208) (h1_ : x.length ≤ 1099511627776) : RO Try.prog 83 [.one (.ints .u8 b), .one (.ints .u8 x)] [(false, [.own 5 (.ints .u8 (putVar b (x.length : Int) ++ x))])] := by
 refine RO.intro Try.func83 rfl 17 rfl (le_ok rfl) fun w Z => ?_
 refine T.bnd 0 0 rfl rfl fun hb_0_0 => ?_
 simp only [D.size, List.length_map] at hb_0_0
 refine T.bnd 1 0 rfl rfl fun hb_1_0 => ?_
 simp only [D.size, List.length_map] at hb_1_0
 refine T.seq ?_
 refine T.region ?_
 refine TL.as (.one (.nil)) ?_
 refine TL.nil ?_
 refine T.seq ?_
 refine T.region ?_
 refine TL.mv (pS b) ?_
 refine TL.mv (pS x) ?_
 refine TL.c (Step.len (e := 5) (z := 1) (d := (.ints .u8 x)) rfl rfl (lt_ok rfl) (by kernel_rfl) rfl rfl) ?_
 have nn1 := putVar_len b (x.length : Int)
 refine TL.c (Step.cl (xs := [.tmp 8, .tmp 10]) (ps := [(pS b), (pI (x.length : Int))]) (g := .func 125) false (.cons (.one (.d _)) (.cons (.one (.d _)) .nil)) (ok_spec_PutVar b (x.length : Int) (by first | omega | assumption | (simp only [List.length_append] at *; omega)))) ?_
 refine TL.mv (.tup [(false, [.row 1011 []]), (false, [.d (.bool (decide (0 ≤ (x.length : Int) ∧ (x.length : Int) ≤ 1152921504606846975)))])]) ?_
 refine TL.c (Step.extract (p := (.one (.row 1011 []))) rfl rfl (lt_ok rfl) rfl rfl) ?_
 refine TL.c (Step.extract (p := (pB (decide (0 ≤ (x.length : Int) ∧ (x.length : Int) ≤ 1152921504606846975)))) rfl rfl (lt_ok rfl) rfl rfl) ?_
 refine TL.as (.one (.row 1011 [])) ?_
 refine TL.as (pB (decide (0 ≤ (x.length : Int) ∧ (x.length : Int) ≤ 1152921504606846975))) ?_
 refine TL.nil ?_
 refine T.seq ?_
 refine T.region ?_
 refine TL.mv (.one (.row 1011 [])) ?_
 refine TL.mv (pS x) ?_
 refine TL.c (Step.append (e := 5) (z := 1) (by_ := 1) (d := (.ints .u8 (putVar b (x.length : Int)))) (dy := (.ints .u8 x)) (d' := (.ints .u8 ((putVar b (x.length : Int)) ++ x))) (ss := []) rfl rfl (lt_ok rfl) (by kernel_rfl) rfl rfl rfl (lt_ok rfl) rfl (.froz rfl (by simp [D.flat, D.val])) (by simp) rfl (by simp only [D.size, List.length_map]; first | omega | (simp only [List.length_append, List.length_cons, List.length_nil]; omega) | (simp; omega) | (simp only [List.length_append] at *; omega)) (by simp only [D.size, List.length_map]; first | omega | (simp only [List.length_append, List.length_cons, List.length_nil]; omega) | (simp; omega) | (simp only [List.length_append] at *; omega)) (by simp)) ?_
 refine TL.as (.one (.row 1011 [])) ?_
 refine TL.nil ?_
 refine T.ret ?_
 refine ⟨[(false, [.row 1011 []])], (.cons rfl .nil), rfl, [1011], (RetC.own' rfl ?_ rfl .nil)⟩ <;> (rfl)
theorem ok_spec_PutBlock (l : SLimits) (b : List Int) (x : SBlock) (h0_ : b.length ≤ 549755813888) (h1_ : x.ok) (h2_ : x.sm) : RO Try.prog 27 [.agg l.cells, .one (.ints .u8 b), .agg x.cells] [(false, [.own 5 (.ints .u8 (putBlock l b x))]), (false, [.rd (.bool (blockOk l x))])] := by
 refine RO.intro Try.func27 rfl 41 rfl (le_ok rfl) fun w Z => ?_
 refine T.bnd 1 0 rfl rfl fun hb_1_0 => ?_
 simp only [D.size, List.length_map] at hb_1_0
 refine T.bnd 2 3 rfl rfl fun hb_2_3 => ?_
 simp only [D.size, List.length_map] at hb_2_3
 refine T.bnd 2 4 rfl rfl fun hb_2_4 => ?_
 simp only [D.size, List.length_map] at hb_2_4
 refine T.bnd 2 7 rfl rfl fun hb_2_7 => ?_
 simp only [D.size, List.length_map] at hb_2_7
 refine T.bnd 2 8 rfl rfl fun hb_2_8 => ?_
 simp only [D.size, List.length_map] at hb_2_8
 refine T.bnd 2 9 rfl rfl fun hb_2_9 => ?_
 simp only [D.size, List.length_map] at hb_2_9
 refine T.bnd 2 10 rfl rfl fun hb_2_10 => ?_
 simp only [D.size, List.length_map] at hb_2_10
 have hok_ := h1_
 have hsm_ := h2_
 obtain ⟨o0, o1⟩ := h1_
 obtain ⟨s0, s1⟩ := h2_
 have hph_ := @putHead_len l b x.f0 s0
 refine T.seq ?_
 refine T.region ?_
 refine TL.c (Step.box (p := (.agg [cI l.f0, cI l.f1, cI l.f2, cI l.f3, cI l.f4])) (ps := [cI l.f0, cI l.f1, cI l.f2, cI l.f3, cI l.f4]) rfl rfl (lt_ok rfl) rfl rfl rfl rfl rfl) ?_
 refine TL.c (Step.box (p := (.agg [cI x.f0.f0, cI x.f0.f1, cI x.f0.f2, cS x.f0.f3, cS x.f0.f4, cI x.f0.f5.f0, cI x.f0.f5.f1, cS x.f0.f5.f2, cS x.f0.f5.f3, .d (.bss x.f0.f5.f4), .d (.bss x.f1)])) (ps := [cI x.f0.f0, cI x.f0.f1, cI x.f0.f2, cS x.f0.f3, cS x.f0.f4, cI x.f0.f5.f0, cI x.f0.f5.f1, cS x.f0.f5.f2, cS x.f0.f5.f3, .d (.bss x.f0.f5.f4), .d (.bss x.f1)]) rfl rfl (lt_ok rfl) rfl rfl rfl rfl rfl) ?_
 refine TL.as (.one (.nil)) ?_
 refine TL.as (pB false) ?_
 refine TL.nil ?_
 refine T.seq ?_
 refine T.seq ?_
 refine T.region ?_
 refine TL.c (Step.load_box_agg (n := 5) (qs := [cI l.f0, cI l.f1, cI l.f2, cI l.f3, cI l.f4]) rfl rfl (lt_ok rfl) (by kernel_rfl) rfl rfl rfl rfl) ?_
 refine TL.c (Step.load_box_agg (n := 11) (qs := [cI x.f0.f0, cI x.f0.f1, cI x.f0.f2, cS x.f0.f3, cS x.f0.f4, cI x.f0.f5.f0, cI x.f0.f5.f1, cS x.f0.f5.f2, cS x.f0.f5.f3, .d (.bss x.f0.f5.f4), .d (.bss x.f1)]) rfl rfl (lt_ok rfl) (by kernel_rfl) rfl rfl rfl rfl) ?_
 refine TL.c (Step.cl (xs := [.tmp 12, .tmp 13]) (ps := [(.agg [cI l.f0, cI l.f1, cI l.f2, cI l.f3, cI l.f4]), (.agg [cI x.f0.f0, cI x.f0.f1, cI x.f0.f2, cS x.f0.f3, cS x.f0.f4, cI x.f0.f5.f0, cI x.f0.f5.f1, cS x.f0.f5.f2, cS x.f0.f5.f3, .d (.bss x.f0.f5.f4), .d (.bss x.f1)])]) (g := .func 82) false (.cons (.agg (.cons (.d _) (.cons (.d _) (.cons (.d _) (.cons (.d _) (.cons (.d _) .nil)))))) (.cons (.agg (.cons (.d _) (.cons (.d _) (.cons (.d _) (.cons (.d _) (.cons (.d _) (.cons (.d _) (.cons (.d _) (.cons (.d _) (.cons (.d _) (.cons (.d _) (.cons (.d _) .nil)))))))))))) .nil)) (ok_spec_BlockOk l x (by first | assumption | exact hok_) (by first | assumption | exact hsm_))) ?_
 refine TL.c (Step.not (b := (blockOk l x)) rfl rfl (lt_ok rfl) rfl) ?_
 refine TL.nil ?_
 refine T.cond (b := !(blockOk l x)) rfl (fun h1 => ?_) (fun h1 => ?_)
 ·
  replace h1 : (blockOk l x) = false := by simpa only [Bool.not_eq_true', Bool.not_eq_false'] using h1
  refine T.seq ?_
  refine T.region ?_
  refine TL.as (.one (.nil)) ?_
  refine TL.as (pB false) ?_
  refine TL.nil ?_
  refine T.ret ?_
  refine ⟨[(false, [.nil]), (false, [.d (.bool false)])], (.cons rfl (.cons rfl .nil)), rfl, [], (RetC.nilown' rfl ?_ (by first | exact trivial | exact D.wf_nil _) (RetC.rd' ?_ .nil))⟩ <;> (first | (congr 1; first | (rw [putBlock_yes hk_]; unfold putBlockB; rw [foldl_all putTextB _ x.f1 i (by omega)]; done) | (rw [putBlock_yes hk_]; unfold putBlockB putHead; rw [if_pos hp1_, foldl_all putTextB _ x.f1 i (by omega)]; done) | (symm; first | assumption | simpa using ‹(!(blockOk l x)) = true›)) | (simp only [D.size]; rw [putBlock_no (l := l) (x := x) (by first | assumption | simpa using ‹(!(blockOk l x)) = true›)]; rfl))
 ·
  replace h1 : (blockOk l x) = true := by simpa only [Bool.not_eq_true', Bool.not_eq_false'] using h1
  have hk_ : blockOk l x = true := by first | assumption | simpa using ‹(!(blockOk l x)) = false›
  obtain ⟨hp1_, hp2_, hp3_, hp4_⟩ := blockOk_all hk_
  have hn8_ := blockOk_n hk_
  refine T.skip ?_
  refine T.seq ?_
  refine T.region ?_
  refine TL.c (Step.load_box_agg (n := 5) (qs := [cI l.f0, cI l.f1, cI l.f2, cI l.f3, cI l.f4]) rfl rfl (lt_ok rfl) (by kernel_rfl) rfl rfl rfl rfl) ?_
  refine TL.mv (pS b) ?_
  refine TL.c (Step.fieldAddr (q := 0) (off := 0) (n := 10) (one := false) rfl rfl (lt_ok rfl) (by kernel_rfl) (Nat.succ_ne_zero _) rfl) ?_
  refine TL.c (Step.load_box_agg (n := 10) (qs := [cI x.f0.f0, cI x.f0.f1, cI x.f0.f2, cS x.f0.f3, cS x.f0.f4, cI x.f0.f5.f0, cI x.f0.f5.f1, cS x.f0.f5.f2, cS x.f0.f5.f3, .d (.bss x.f0.f5.f4)]) rfl rfl (lt_ok rfl) (by kernel_rfl) rfl rfl rfl rfl) ?_
  have nn2 := @putHead_len l b x.f0 (by first | assumption | exact mem_getD s0.2 (by omega))
  refine TL.c (Step.cl (xs := [.tmp 17, .tmp 18, .tmp 20]) (ps := [(.agg [cI l.f0, cI l.f1, cI l.f2, cI l.f3, cI l.f4]), (pS b), (.agg [cI x.f0.f0, cI x.f0.f1, cI x.f0.f2, cS x.f0.f3, cS x.f0.f4, cI x.f0.f5.f0, cI x.f0.f5.f1, cS x.f0.f5.f2, cS x.f0.f5.f3, .d (.bss x.f0.f5.f4)])]) (g := .func 71) false (.cons (.agg (.cons (.d _) (.cons (.d _) (.cons (.d _) (.cons (.d _) (.cons (.d _) .nil)))))) (.cons (.one (.d _)) (.cons (.agg (.cons (.d _) (.cons (.d _) (.cons (.d _) (.cons (.d _) (.cons (.d _) (.cons (.d _) (.cons (.d _) (.cons (.d _) (.cons (.d _) (.cons (.d _) .nil))))))))))) .nil))) (ok_spec_PutHead l b x.f0 (by first | omega | assumption | (simp only [List.length_append] at *; omega)) (by first | assumption | exact mem_getD o0 (by omega)) (by first | assumption | exact mem_getD s0.2 (by omega)))) ?_
  refine TL.mv (.tup [(false, [.row 1021 []]), (false, [.d (.bool (headOk l x.f0))])]) ?_
  refine TL.c (Step.extract (p := (.one (.row 1021 []))) rfl rfl (lt_ok rfl) rfl rfl) ?_
  refine TL.c (Step.extract (p := (pB (headOk l x.f0))) rfl rfl (lt_ok rfl) rfl rfl) ?_
  refine TL.as (.one (.row 1021 [])) ?_
  refine TL.as (pB (headOk l x.f0)) ?_
  refine TL.ren 1021 600001 rfl (by simp) ?_
  refine TL.nil ?_
  refine T.weaken (E' := { tm := [(5, (.one (.ptr 5 0))), (6, (.one (.nil))), (7, (pB false)), (8, (.one (.row 600001 [])))], rows := [(600001, (5, (.ints .u8 (putHead l b x.f0))))], boxes := [(5, (56, [cI x.f0.f0, cI x.f0.f1, cI x.f0.f2, cS x.f0.f3, cS x.f0.f4, cI x.f0.f5.f0, cI x.f0.f5.f1, cS x.f0.f5.f2, cS x.f0.f5.f3, .d (.bss x.f0.f5.f4), .d (.bss x.f1)]))] }) (Env.le_mk ⟨by kernel_rfl, by kernel_rfl, by kernel_rfl, by kernel_rfl, trivial⟩ ⟨by kernel_rfl, trivial⟩ ⟨by kernel_rfl, trivial⟩) ?_
  refine T.seq ?_
  refine T.region ?_
  refine TL.mv (.one (.row 600001 [])) ?_
  refine TL.c (Step.fieldAddr (q := 0) (off := 10) (n := 1) (one := true) rfl rfl (lt_ok rfl) (by kernel_rfl) (Nat.succ_ne_zero _) rfl) ?_
  refine TL.c (Step.load_box (c := .d (.bss x.f1)) rfl rfl (lt_ok rfl) (by kernel_rfl) rfl rfl rfl) ?_
  refine TL.c (Step.len (e := 24) (z := 1) (d := (.bss x.f1)) rfl rfl (lt_ok rfl) (by kernel_rfl) rfl rfl) ?_
  have nn3 := putVar_len (putHead l b x.f0) (x.f1.length : Int)
  refine TL.c (Step.cl (xs := [.tmp 24, .tmp 27]) (ps := [(.one (.row 600001 [])), (pI (x.f1.length : Int))]) (g := .func 70) false (.cons (.one (.row rfl rfl rfl rfl)) (.cons (.one (.d _)) .nil)) (ok_spec_l11Num (putHead l b x.f0) (x.f1.length : Int) (by first | omega | assumption | (simp only [List.length_append] at *; omega)))) ?_
  refine TL.as (.one (.row 1028 [])) ?_
  refine TL.weaken (Env.drops_le [600001] _) ?_
  refine TL.ren 1028 600001 rfl (by simp) ?_
  refine TL.nil ?_
  refine T.seq ?_
  refine T.seq ?_
  refine T.region ?_
  refine TL.c (Step.fieldAddr (q := 0) (off := 10) (n := 1) (one := true) rfl rfl (lt_ok rfl) (by kernel_rfl) (Nat.succ_ne_zero _) rfl) ?_
  refine TL.c (Step.load_box (c := .d (.bss x.f1)) rfl rfl (lt_ok rfl) (by kernel_rfl) rfl rfl rfl) ?_
  refine TL.c (Step.len (e := 24) (z := 1) (d := (.bss x.f1)) rfl rfl (lt_ok rfl) (by kernel_rfl) rfl rfl) ?_
  refine TL.mv (pI 0) ?_
  refine TL.nil ?_
  refine T.block ?_
  refine T.loop (ι := Nat) (fun xx_ => { tm := [(6, (.one (.nil))), (7, (pB false)), (30, (.one (.d (.bss x.f1)))), (31, (pI (x.f1.length : Int))), (32, (pI (xx_ : Int))), (8, (.one (.row 600001 [])))], rows := [(600001, (5, (.ints .u8 ((x.f1.take xx_).foldl putTextB (putVar (putHead l b x.f0) (x.f1.length : Int))))))], boxes := [(5, (56, [cI x.f0.f0, cI x.f0.f1, cI x.f0.f2, cS x.f0.f3, cS x.f0.f4, cI x.f0.f5.f0, cI x.f0.f5.f1, cS x.f0.f5.f2, cS x.f0.f5.f3, .d (.bss x.f0.f5.f4), .d (.bss x.f1)]))] }) (fun xx_ => xx_ ≤ x.f1.length) (fun xx_ => x.f1.length - xx_) 0 ?_ ?_ ?_
  · refine Env.le_mk ⟨rfl, rfl, rfl, rfl, ?_, rfl, trivial⟩ ⟨?_, trivial⟩ ⟨rfl, trivial⟩ <;> (first | (refine congrArg (fun x => some (_, D.ints .u8 x)) ?_; first | (rw [foldl_take_succ putTextB _ _ i [] (by omega)]; first | done | rfl) | rfl) | rfl | (refine congrArg (fun n => PV.one (.d (.int .i64 n))) ?_; first | omega | (simp; done)))
  · exact Nat.zero_le _
  ·
   intro i hx
   try dsimp only at hx ⊢
   have hw_ := txs_len (b := putVar (putHead l b x.f0) (x.f1.length : Int)) hn8_ s1.2 i
   have hy_ := mem_len s1.2 i
   refine T.seq ?_
   refine T.region ?_
   refine TL.c (Step.bin rfl rfl (lt_ok rfl) rfl rfl (Bin.lss (k := .i64) (a := (i : Int)) (b := (x.f1.length : Int)))) ?_
   refine TL.nil ?_
   refine T.seq ?_
   refine T.cond (b := decide ((i : Int) < (x.f1.length : Int))) rfl (fun h4 => ?_) (fun h4 => ?_)
   ·
    replace h4 := of_decide_eq_true h4
    refine T.skip ?_
    refine T.seq ?_
    refine T.block ?_
    refine T.seq ?_
    refine T.region ?_
    refine TL.c (Step.index (e := 24) (z := 1) (i := (i : Int)) rfl rfl (lt_ok rfl) (by kernel_rfl) rfl rfl rfl (lt_ok rfl) rfl (by first | omega | (simp only [List.length_append] at *; omega) | (simp; omega)) (by simp only [D.size]; first | omega | (simp only [List.length_append] at *; omega) | (simp; omega))) ?_
    refine TL.c (Step.load (e := (.ints .u8 (x.f1.getD i []))) rfl rfl (lt_ok rfl) (by kernel_rfl) rfl rfl) ?_
    refine TL.as (pS (x.f1.getD i [])) ?_
    refine TL.nil ?_
    refine T.region ?_
    refine TL.mv (.one (.row 600001 [])) ?_
    refine TL.mv (pS (x.f1.getD i [])) ?_
    have nn5 := putVar_len ((x.f1.take i).foldl putTextB (putVar (putHead l b x.f0) (x.f1.length : Int))) (((x.f1.getD i [])).length : Int)
    refine TL.c (Step.cl (xs := [.tmp 36, .tmp 37]) (ps := [(.one (.row 600001 [])), (pS (x.f1.getD i []))]) (g := .func 83) false (.cons (.one (.row rfl rfl rfl rfl)) (.cons (.one (.d _)) .nil)) (ok_spec_PutText ((x.f1.take i).foldl putTextB (putVar (putHead l b x.f0) (x.f1.length : Int))) (x.f1.getD i []) (by first | omega | assumption | (simp only [List.length_append] at *; omega)) (by first | omega | assumption | (simp only [List.length_append] at *; omega)))) ?_
    refine TL.as (.one (.row 1038 [])) ?_
    refine TL.weaken (Env.drops_le [600001] _) ?_
    refine TL.ren 1038 600001 rfl (by simp) ?_
    refine TL.nil ?_
    refine T.region ?_
    refine TL.c (Step.bin (r := .int .i64 ((i : Int) + 1)) rfl rfl (lt_ok rfl) rfl rfl (Bin.add (a := (i : Int)) (b := 1) (by first | exact wrap_ok (by first | omega | (simp only [List.length_append] at *; omega) | (simp; omega)) (by first | omega | (simp only [List.length_append] at *; omega) | (simp; omega)) | rfl))) ?_
    refine TL.mv (pI ((i : Int) + 1)) ?_
    refine TL.nil ?_
    refine ⟨i + 1, by omega, by first | omega | (dsimp only; omega), Env.le_mk ⟨rfl, rfl, rfl, rfl, ?_, rfl, trivial⟩ ⟨?_, trivial⟩ ⟨rfl, trivial⟩⟩ <;> (first | (refine congrArg (fun x => some (_, D.ints .u8 x)) ?_; first | (rw [foldl_take_succ putTextB _ _ i [] (by omega)]; first | done | rfl) | rfl) | rfl | (refine congrArg (fun n => PV.one (.d (.int .i64 n))) ?_; first | omega | (simp; done)))
   ·
    replace h4 := of_decide_eq_false h4
    refine T.exit ?_
    refine T.seq ?_
    refine T.region ?_
    refine TL.mv (.one (.row 600001 [])) ?_
    refine TL.as (.one (.row 600001 [])) ?_
    refine TL.as (pB true) ?_
    refine TL.nil ?_
    refine T.ret ?_
    refine ⟨[(false, [.row 600001 []]), (false, [.d (.bool true)])], (.cons rfl (.cons rfl .nil)), rfl, [600001], (RetC.own' rfl ?_ rfl (RetC.rd' ?_ .nil))⟩ <;> (first | (congr 1; first | (rw [putBlock_yes hk_]; unfold putBlockB; rw [foldl_all putTextB _ x.f1 i (by omega)]; done) | (rw [putBlock_yes hk_]; unfold putBlockB putHead; rw [if_pos hp1_, foldl_all putTextB _ x.f1 i (by omega)]; done) | (symm; first | assumption | simpa using ‹(!(blockOk l x)) = true›)) | (simp only [D.size]; rw [putBlock_no (l := l) (x := x) (by first | assumption | simpa using ‹(!(blockOk l x)) = true›)]; rfl))
theorem ok_laws_toByteSS (a : List (List Int)) (h0_ : a.length ≤ 1048576 ∧ ∀ y ∈ a, y.length ≤ 1048576) : RO Try.prog 56 [.one (.bss a)] [(false, [.own 24 (.bss a)])] := by
 refine RO.intro Try.func56 rfl 23 rfl (le_ok rfl) fun w Z => ?_
 refine T.bnd 0 0 rfl rfl fun hb_0_0 => ?_
 simp only [D.size, List.length_map] at hb_0_0
 have h0b := h0_.1
 refine T.seq ?_
 refine T.region ?_
 refine TL.as (.one (.nil)) ?_
 refine TL.nil ?_
 refine T.seq ?_
 refine T.region ?_
 refine TL.mv (.one (.d (.bss a))) ?_
 refine TL.c (Step.len (e := 24) (z := 1) (d := (.bss a)) rfl rfl (lt_ok rfl) (by kernel_rfl) rfl rfl) ?_
 refine TL.c (Step.make (e := 24) (z := 1) (by_ := 24) (n := (a.length : Int)) (zs := [.slice none 0 0]) (zd := [.ints .u8 []]) (d := (.bss (List.replicate a.length []))) rfl rfl (lt_ok rfl) (by kernel_rfl) (lt_ok rfl) rfl (by first | omega | (simp; omega)) (by first | omega | (simp; omega)) (by first | omega | (simp; omega)) (by kernel_rfl) (.empty rfl rfl trivial .nil) rfl (by simp) (by simp [D.flat, List.flatten_replicate_singleton]) (by simp [D.size]) rfl trivial) ?_
 refine TL.as (.one (.row 7 [])) ?_
 refine TL.nil ?_
 refine T.seq ?_
 refine T.seq ?_
 refine T.region ?_
 refine TL.as (pI 0) ?_
 refine TL.nil ?_
 refine T.block ?_
 refine T.loop (ι := Nat) (fun xx_ => { tm := [(0, (.one (.d (.bss a)))), (2, (.one (.nil))), (3, (.one (.row 7 []))), (4, (pI (xx_ : Int)))], rows := [(7, (24, (.bss (a.take xx_ ++ List.replicate (a.length - xx_) [] : List (List Int)))))], boxes := [] }) (fun xx_ => xx_ ≤ a.length) (fun xx_ => a.length - xx_) 0 ?_ ?_ ?_
 · refine Env.le_mk ⟨rfl, rfl, rfl, ?_, trivial⟩ ⟨?_, trivial⟩ trivial <;> (first | rfl | exact congrArg (fun x => some (24, ((.bss x) : D))) (fill_set a [] [] i (by omega)))
 · exact Nat.zero_le _
 ·
  intro i hx
  try dsimp only at hx ⊢
  refine T.seq ?_
  refine T.seq ?_
  refine T.region ?_
  refine TL.mv (pI (i : Int)) ?_
  refine TL.mv (.one (.d (.bss a))) ?_
  refine TL.c (Step.len (e := 24) (z := 1) (d := (.bss a)) rfl rfl (lt_ok rfl) (by kernel_rfl) rfl rfl) ?_
  refine TL.c (Step.bin rfl rfl (lt_ok rfl) rfl rfl (Bin.lss (k := .i64) (a := (i : Int)) (b := (a.length : Int)))) ?_
  refine TL.nil ?_
  refine T.cond (b := decide ((i : Int) < (a.length : Int))) rfl (fun h1 => ?_) (fun h1 => ?_)
  ·
   replace h1 := of_decide_eq_true h1
   refine T.skip ?_
   refine T.seq ?_
   refine T.block ?_
   refine T.region ?_
   refine TL.mv (.one (.row 7 [])) ?_
   refine TL.mv (pI (i : Int)) ?_
   refine TL.mv (.one (.d (.bss a))) ?_
   refine TL.mv (pI (i : Int)) ?_
   refine TL.c (Step.index (e := 24) (z := 1) (i := (i : Int)) rfl rfl (lt_ok rfl) (by kernel_rfl) rfl rfl rfl (lt_ok rfl) rfl (by first | omega | (simp; omega)) (by simp only [D.size]; first | omega | (simp; omega))) ?_
   refine TL.c (Step.load (e := (.ints .u8 (a.getD i []))) rfl rfl (lt_ok rfl) (by kernel_rfl) rfl rfl) ?_
   refine TL.c (Step.cl (xs := [.tmp 19]) (ps := [(pS (a.getD i []))]) (g := .func 18) false (.cons (.one (.d _)) .nil) (ok_laws_toByteS (a.getD i []) (by first | omega | assumption | exact mem_getD h0_.2 (by omega)))) ?_
   refine TL.c (Step.index_row (e := 24) (z := 1) (i := (i : Int)) rfl rfl (lt_ok rfl) (by kernel_rfl) rfl rfl rfl rfl (lt_ok rfl) rfl (by first | omega | (simp; omega)) (by simp only [D.at_, D.cell, D.size]; first | omega | (simp; omega))) ?_
   refine TL.c (Step.store_row (n := 1) (p := (.one (.row 1020 []))) (ps := [.row 1020 []]) (es := [(.ints .u8 (a.getD i []))]) (ss := [1020]) (d1 := (.bss ((a.take i ++ List.replicate (a.length - i) [] : List (List Int)).set i (a.getD i [])))) (d' := (.bss ((a.take i ++ List.replicate (a.length - i) [] : List (List Int)).set i (a.getD i [])))) rfl rfl (by kernel_rfl) rfl rfl rfl rfl rfl rfl (.row rfl (by simp) .nil) (by simp) (Putd.one rfl trivial rfl (by simp only [D.at_, D.size, List.length_set, upTo_length]; first | omega | (simp; omega)) (lt_ok rfl)) rfl) ?_
   refine TL.nil ?_
   refine T.region ?_
   refine TL.mv (pI (i : Int)) ?_
   refine TL.c (Step.bin (r := .int .i64 ((i : Int) + 1)) rfl rfl (lt_ok rfl) rfl rfl (Bin.add (a := (i : Int)) (b := 1) (by first | exact wrap_ok (by first | omega | (simp; omega)) (by first | omega | (simp; omega)) | rfl))) ?_
   refine TL.as (pI ((i : Int) + 1)) ?_
   refine TL.nil ?_
   refine ⟨i + 1, by omega, by omega, Env.le_mk ⟨rfl, rfl, rfl, ?_, trivial⟩ ⟨?_, trivial⟩ trivial⟩ <;> (first | rfl | exact congrArg (fun x => some (24, ((.bss x) : D))) (fill_set a [] [] i (by omega)))
  ·
   replace h1 := of_decide_eq_false h1
   refine T.exit ?_
   refine T.seq ?_
   refine T.region ?_
   refine TL.mv (.one (.row 7 [])) ?_
   refine TL.as (.one (.row 7 [])) ?_
   refine TL.nil ?_
   refine T.ret ?_
   refine ⟨[(false, [.row 7 []])], (.cons rfl .nil), rfl, [7], (RetC.own' rfl ?_ rfl .nil)⟩ <;> (first | rfl | (congr 1; rw [fill_all' _ _ _ (by omega)]) | (rw [fill_all' _ _ _ (by omega)]))
theorem ok_laws_toQc (a : SQc) (h0_ : a.sm) : RO Try.prog 74 [.agg a.cells] [(true, [.rd (.int .i64 a.f0), .rd (.int .i64 a.f1), .own 5 (.ints .u8 a.f2), .own 5 (.ints .u8 a.f3), .own 24 (.bss a.f4)])] := by
 refine RO.intro Try.func74 rfl 23 rfl (le_ok rfl) fun w Z => ?_
 obtain ⟨s0, s1, s2⟩ := h0_
 refine T.seq ?_
 refine T.region ?_
 refine TL.c (Step.box (p := (.agg [cI a.f0, cI a.f1, cS a.f2, cS a.f3, .d (.bss a.f4)])) (ps := [cI a.f0, cI a.f1, cS a.f2, cS a.f3, .d (.bss a.f4)]) rfl rfl (lt_ok rfl) rfl rfl rfl rfl rfl) ?_
 refine TL.c (Step.alloc (cs := [.int .i64 0, .int .i64 0, .slice none 0 0, .slice none 0 0, .slice none 0 0]) (ps := [cI 0, cI 0, .nil, .nil, .nil]) rfl rfl (lt_ok rfl) (by kernel_rfl) rfl rfl rfl rfl) ?_
 refine TL.nil ?_
 refine T.seq ?_
 refine T.region ?_
 refine TL.c (Step.alloc (cs := [.int .i64 0, .int .i64 0, .slice none 0 0, .slice none 0 0, .slice none 0 0]) (ps := [cI 0, cI 0, .nil, .nil, .nil]) rfl rfl (lt_ok rfl) (by kernel_rfl) rfl rfl rfl rfl) ?_
 refine TL.nil ?_
 refine T.seq ?_
 refine T.region ?_
 refine TL.c (Step.fieldAddr (q := 0) (off := 0) (n := 1) (one := true) rfl rfl (lt_ok rfl) (by kernel_rfl) (Nat.succ_ne_zero _) rfl) ?_
 refine TL.c (Step.load_box (c := cI a.f0) rfl rfl (lt_ok rfl) (by kernel_rfl) rfl rfl rfl) ?_
 refine TL.c (Step.fieldAddr (q := 0) (off := 0) (n := 1) (one := true) rfl rfl (lt_ok rfl) (by kernel_rfl) (Nat.succ_ne_zero _) rfl) ?_
 refine TL.c (Step.store_box (n := 1) (p := (pI a.f0)) (qs := [cI a.f0]) (ps' := [cI a.f0, cI 0, .nil, .nil, .nil]) rfl rfl (by kernel_rfl) rfl rfl rfl rfl rfl rfl (le_ok rfl) rfl) ?_
 refine TL.nil ?_
 refine T.seq ?_
 refine T.region ?_
 refine TL.c (Step.fieldAddr (q := 0) (off := 1) (n := 1) (one := true) rfl rfl (lt_ok rfl) (by kernel_rfl) (Nat.succ_ne_zero _) rfl) ?_
 refine TL.c (Step.load_box (c := cI a.f1) rfl rfl (lt_ok rfl) (by kernel_rfl) rfl rfl rfl) ?_
 refine TL.c (Step.fieldAddr (q := 0) (off := 1) (n := 1) (one := true) rfl rfl (lt_ok rfl) (by kernel_rfl) (Nat.succ_ne_zero _) rfl) ?_
 refine TL.c (Step.store_box (n := 1) (p := (pI a.f1)) (qs := [cI a.f1]) (ps' := [cI a.f0, cI a.f1, .nil, .nil, .nil]) rfl rfl (by kernel_rfl) rfl rfl rfl rfl rfl rfl (le_ok rfl) rfl) ?_
 refine TL.nil ?_
 refine T.seq ?_
 refine T.region ?_
 refine TL.c (Step.fieldAddr (q := 0) (off := 2) (n := 1) (one := true) rfl rfl (lt_ok rfl) (by kernel_rfl) (Nat.succ_ne_zero _) rfl) ?_
 refine TL.c (Step.load_box (c := cS a.f2) rfl rfl (lt_ok rfl) (by kernel_rfl) rfl rfl rfl) ?_
 refine TL.c (Step.cl (xs := [.tmp 11]) (ps := [(pS a.f2)]) (g := .func 18) false (.cons (.one (.d _)) .nil) (ok_laws_toByteS a.f2 (by first | omega | assumption | exact mem_getD h0_.2 (by omega)))) ?_
 refine TL.c (Step.fieldAddr (q := 0) (off := 2) (n := 1) (one := true) rfl rfl (lt_ok rfl) (by kernel_rfl) (Nat.succ_ne_zero _) rfl) ?_
 refine TL.c (Step.store_box (n := 1) (p := (.one (.row 1012 []))) (qs := [.row 1012 []]) (ps' := [cI a.f0, cI a.f1, .row 1012 [], .nil, .nil]) rfl rfl (by kernel_rfl) rfl rfl rfl rfl rfl rfl (le_ok rfl) rfl) ?_
 refine TL.nil ?_
 refine T.seq ?_
 refine T.region ?_
 refine TL.c (Step.fieldAddr (q := 0) (off := 3) (n := 1) (one := true) rfl rfl (lt_ok rfl) (by kernel_rfl) (Nat.succ_ne_zero _) rfl) ?_
 refine TL.c (Step.load_box (c := cS a.f3) rfl rfl (lt_ok rfl) (by kernel_rfl) rfl rfl rfl) ?_
 refine TL.c (Step.cl (xs := [.tmp 15]) (ps := [(pS a.f3)]) (g := .func 18) false (.cons (.one (.d _)) .nil) (ok_laws_toByteS a.f3 (by first | omega | assumption | exact mem_getD h0_.2 (by omega)))) ?_
 refine TL.c (Step.fieldAddr (q := 0) (off := 3) (n := 1) (one := true) rfl rfl (lt_ok rfl) (by kernel_rfl) (Nat.succ_ne_zero _) rfl) ?_
 refine TL.c (Step.store_box (n := 1) (p := (.one (.row 1016 []))) (qs := [.row 1016 []]) (ps' := [cI a.f0, cI a.f1, .row 1012 [], .row 1016 [], .nil]) rfl rfl (by kernel_rfl) rfl rfl rfl rfl rfl rfl (le_ok rfl) rfl) ?_
 refine TL.nil ?_
 refine T.seq ?_
 refine T.region ?_
 refine TL.c (Step.fieldAddr (q := 0) (off := 4) (n := 1) (one := true) rfl rfl (lt_ok rfl) (by kernel_rfl) (Nat.succ_ne_zero _) rfl) ?_
 refine TL.c (Step.load_box (c := .d (.bss a.f4)) rfl rfl (lt_ok rfl) (by kernel_rfl) rfl rfl rfl) ?_
 refine TL.c (Step.cl (xs := [.tmp 19]) (ps := [(.one (.d (.bss a.f4)))]) (g := .func 56) false (.cons (.one (.d _)) .nil) (ok_laws_toByteSS a.f4 (by first | assumption | exact ⟨‹_›, ‹_›⟩ | exact mem_getD h0_.2 (by omega)))) ?_
 refine TL.c (Step.fieldAddr (q := 0) (off := 4) (n := 1) (one := true) rfl rfl (lt_ok rfl) (by kernel_rfl) (Nat.succ_ne_zero _) rfl) ?_
 refine TL.c (Step.store_box (n := 1) (p := (.one (.row 1020 []))) (qs := [.row 1020 []]) (ps' := [cI a.f0, cI a.f1, .row 1012 [], .row 1016 [], .row 1020 []]) rfl rfl (by kernel_rfl) rfl rfl rfl rfl rfl rfl (le_ok rfl) rfl) ?_
 refine TL.nil ?_
 refine T.seq ?_
 refine T.region ?_
 refine TL.c (Step.load_box_agg (n := 5) (qs := [cI a.f0, cI a.f1, .row 1012 [], .row 1016 [], .row 1020 []]) rfl rfl (lt_ok rfl) (by kernel_rfl) rfl rfl rfl rfl) ?_
 refine TL.c (Step.store_box (n := 5) (p := (.agg [cI a.f0, cI a.f1, .row 1012 [], .row 1016 [], .row 1020 []])) (qs := [cI a.f0, cI a.f1, .row 1012 [], .row 1016 [], .row 1020 []]) (ps' := [cI a.f0, cI a.f1, .row 1012 [], .row 1016 [], .row 1020 []]) rfl rfl (by kernel_rfl) rfl rfl rfl rfl rfl rfl (le_ok rfl) rfl) ?_
 refine TL.nil ?_
 refine T.ret ?_
 refine ⟨[(true, [cI a.f0, cI a.f1, .row 1012 [], .row 1016 [], .row 1020 []])], (.cons rfl .nil), rfl, [1012, 1016, 1020], (RetC.rd' rfl (RetC.rd' rfl (RetC.own' rfl ?_ rfl (RetC.own' rfl ?_ rfl (RetC.own' rfl ?_ rfl .nil)))))⟩ <;> (rfl)
theorem ok_laws_toHead (a : SHead) (h0_ : a.sm) : RO Try.prog 50 [.agg a.cells] [(true, [.rd (.int .i64 a.f0), .rd (.int .i64 a.f1), .rd (.int .i64 a.f2), .own 5 (.ints .u8 a.f3), .own 5 (.ints .u8 a.f4), .rd (.int .i64 a.f5.f0), .rd (.int .i64 a.f5.f1), .own 5 (.ints .u8 a.f5.f2), .own 5 (.ints .u8 a.f5.f3), .own 24 (.bss a.f5.f4)])] := by
 refine RO.intro Try.func50 rfl 26 rfl (le_ok rfl) fun w Z => ?_
 obtain ⟨s0, s1, s2⟩ := h0_
 refine T.seq ?_
 refine T.region ?_
 refine TL.c (Step.box (p := (.agg [cI a.f0, cI a.f1, cI a.f2, cS a.f3, cS a.f4, cI a.f5.f0, cI a.f5.f1, cS a.f5.f2, cS a.f5.f3, .d (.bss a.f5.f4)])) (ps := [cI a.f0, cI a.f1, cI a.f2, cS a.f3, cS a.f4, cI a.f5.f0, cI a.f5.f1, cS a.f5.f2, cS a.f5.f3, .d (.bss a.f5.f4)]) rfl rfl (lt_ok rfl) rfl rfl rfl rfl rfl) ?_
 refine TL.c (Step.alloc (cs := [.int .i64 0, .int .i64 0, .int .i64 0, .slice none 0 0, .slice none 0 0, .int .i64 0, .int .i64 0, .slice none 0 0, .slice none 0 0, .slice none 0 0]) (ps := [cI 0, cI 0, cI 0, .nil, .nil, cI 0, cI 0, .nil, .nil, .nil]) rfl rfl (lt_ok rfl) (by kernel_rfl) rfl rfl rfl rfl) ?_
 refine TL.nil ?_
 refine T.seq ?_
 refine T.region ?_
 refine TL.c (Step.alloc (cs := [.int .i64 0, .int .i64 0, .int .i64 0, .slice none 0 0, .slice none 0 0, .int .i64 0, .int .i64 0, .slice none 0 0, .slice none 0 0, .slice none 0 0]) (ps := [cI 0, cI 0, cI 0, .nil, .nil, cI 0, cI 0, .nil, .nil, .nil]) rfl rfl (lt_ok rfl) (by kernel_rfl) rfl rfl rfl rfl) ?_
 refine TL.nil ?_
 refine T.seq ?_
 refine T.region ?_
 refine TL.c (Step.fieldAddr (q := 0) (off := 0) (n := 1) (one := true) rfl rfl (lt_ok rfl) (by kernel_rfl) (Nat.succ_ne_zero _) rfl) ?_
 refine TL.c (Step.load_box (c := cI a.f0) rfl rfl (lt_ok rfl) (by kernel_rfl) rfl rfl rfl) ?_
 refine TL.c (Step.fieldAddr (q := 0) (off := 0) (n := 1) (one := true) rfl rfl (lt_ok rfl) (by kernel_rfl) (Nat.succ_ne_zero _) rfl) ?_
 refine TL.c (Step.store_box (n := 1) (p := (pI a.f0)) (qs := [cI a.f0]) (ps' := [cI a.f0, cI 0, cI 0, .nil, .nil, cI 0, cI 0, .nil, .nil, .nil]) rfl rfl (by kernel_rfl) rfl rfl rfl rfl rfl rfl (le_ok rfl) rfl) ?_
 refine TL.nil ?_
 refine T.seq ?_
 refine T.region ?_
 refine TL.c (Step.fieldAddr (q := 0) (off := 1) (n := 1) (one := true) rfl rfl (lt_ok rfl) (by kernel_rfl) (Nat.succ_ne_zero _) rfl) ?_
 refine TL.c (Step.load_box (c := cI a.f1) rfl rfl (lt_ok rfl) (by kernel_rfl) rfl rfl rfl) ?_
 refine TL.c (Step.fieldAddr (q := 0) (off := 1) (n := 1) (one := true) rfl rfl (lt_ok rfl) (by kernel_rfl) (Nat.succ_ne_zero _) rfl) ?_
 refine TL.c (Step.store_box (n := 1) (p := (pI a.f1)) (qs := [cI a.f1]) (ps' := [cI a.f0, cI a.f1, cI 0, .nil, .nil, cI 0, cI 0, .nil, .nil, .nil]) rfl rfl (by kernel_rfl) rfl rfl rfl rfl rfl rfl (le_ok rfl) rfl) ?_
 refine TL.nil ?_
 refine T.seq ?_
 refine T.region ?_
 refine TL.c (Step.fieldAddr (q := 0) (off := 2) (n := 1) (one := true) rfl rfl (lt_ok rfl) (by kernel_rfl) (Nat.succ_ne_zero _) rfl) ?_
 refine TL.c (Step.load_box (c := cI a.f2) rfl rfl (lt_ok rfl) (by kernel_rfl) rfl rfl rfl) ?_
 refine TL.c (Step.fieldAddr (q := 0) (off := 2) (n := 1) (one := true) rfl rfl (lt_ok rfl) (by kernel_rfl) (Nat.succ_ne_zero _) rfl) ?_
 refine TL.c (Step.store_box (n := 1) (p := (pI a.f2)) (qs := [cI a.f2]) (ps' := [cI a.f0, cI a.f1, cI a.f2, .nil, .nil, cI 0, cI 0, .nil, .nil, .nil]) rfl rfl (by kernel_rfl) rfl rfl rfl rfl rfl rfl (le_ok rfl) rfl) ?_
 refine TL.nil ?_
 refine T.seq ?_
 refine T.region ?_
 refine TL.c (Step.fieldAddr (q := 0) (off := 3) (n := 1) (one := true) rfl rfl (lt_ok rfl) (by kernel_rfl) (Nat.succ_ne_zero _) rfl) ?_
 refine TL.c (Step.load_box (c := cS a.f3) rfl rfl (lt_ok rfl) (by kernel_rfl) rfl rfl rfl) ?_
 refine TL.c (Step.cl (xs := [.tmp 14]) (ps := [(pS a.f3)]) (g := .func 18) false (.cons (.one (.d _)) .nil) (ok_laws_toByteS a.f3 (by first | omega | assumption | exact mem_getD h0_.2 (by omega)))) ?_
 refine TL.c (Step.fieldAddr (q := 0) (off := 3) (n := 1) (one := true) rfl rfl (lt_ok rfl) (by kernel_rfl) (Nat.succ_ne_zero _) rfl) ?_
 refine TL.c (Step.store_box (n := 1) (p := (.one (.row 1015 []))) (qs := [.row 1015 []]) (ps' := [cI a.f0, cI a.f1, cI a.f2, .row 1015 [], .nil, cI 0, cI 0, .nil, .nil, .nil]) rfl rfl (by kernel_rfl) rfl rfl rfl rfl rfl rfl (le_ok rfl) rfl) ?_
 refine TL.nil ?_
 refine T.seq ?_
 refine T.region ?_
 refine TL.c (Step.fieldAddr (q := 0) (off := 4) (n := 1) (one := true) rfl rfl (lt_ok rfl) (by kernel_rfl) (Nat.succ_ne_zero _) rfl) ?_
 refine TL.c (Step.load_box (c := cS a.f4) rfl rfl (lt_ok rfl) (by kernel_rfl) rfl rfl rfl) ?_
 refine TL.c (Step.cl (xs := [.tmp 18]) (ps := [(pS a.f4)]) (g := .func 18) false (.cons (.one (.d _)) .nil) (ok_laws_toByteS a.f4 (by first | omega | assumption | exact mem_getD h0_.2 (by omega)))) ?_
 refine TL.c (Step.fieldAddr (q := 0) (off := 4) (n := 1) (one := true) rfl rfl (lt_ok rfl) (by kernel_rfl) (Nat.succ_ne_zero _) rfl) ?_
 refine TL.c (Step.store_box (n := 1) (p := (.one (.row 1019 []))) (qs := [.row 1019 []]) (ps' := [cI a.f0, cI a.f1, cI a.f2, .row 1015 [], .row 1019 [], cI 0, cI 0, .nil, .nil, .nil]) rfl rfl (by kernel_rfl) rfl rfl rfl rfl rfl rfl (le_ok rfl) rfl) ?_
 refine TL.nil ?_
 refine T.seq ?_
 refine T.region ?_
 refine TL.c (Step.fieldAddr (q := 0) (off := 5) (n := 5) (one := false) rfl rfl (lt_ok rfl) (by kernel_rfl) (Nat.succ_ne_zero _) rfl) ?_
 refine TL.c (Step.load_box_agg (n := 5) (qs := [cI a.f5.f0, cI a.f5.f1, cS a.f5.f2, cS a.f5.f3, .d (.bss a.f5.f4)]) rfl rfl (lt_ok rfl) (by kernel_rfl) rfl rfl rfl rfl) ?_
 refine TL.c (Step.cl (xs := [.tmp 22]) (ps := [(.agg [cI a.f5.f0, cI a.f5.f1, cS a.f5.f2, cS a.f5.f3, .d (.bss a.f5.f4)])]) (g := .func 74) false (.cons (.agg (.cons (.d _) (.cons (.d _) (.cons (.d _) (.cons (.d _) (.cons (.d _) .nil)))))) .nil) (ok_laws_toQc a.f5 (by first | assumption | exact ⟨‹_›, ‹_›⟩ | (refine mem_getD (p := SQc.sm) h0_.2 (by omega)) | exact mem_getD h0_.2 (by omega)))) ?_
 refine TL.c (Step.fieldAddr (q := 0) (off := 5) (n := 5) (one := false) rfl rfl (lt_ok rfl) (by kernel_rfl) (Nat.succ_ne_zero _) rfl) ?_
 refine TL.c (Step.store_box (n := 5) (p := (.agg [cI a.f5.f0, cI a.f5.f1, .row 3023 [], .row 4023 [], .row 5023 []])) (qs := [cI a.f5.f0, cI a.f5.f1, .row 3023 [], .row 4023 [], .row 5023 []]) (ps' := [cI a.f0, cI a.f1, cI a.f2, .row 1015 [], .row 1019 [], cI a.f5.f0, cI a.f5.f1, .row 3023 [], .row 4023 [], .row 5023 []]) rfl rfl (by kernel_rfl) rfl rfl rfl rfl rfl rfl (le_ok rfl) rfl) ?_
 refine TL.nil ?_
 refine T.seq ?_
 refine T.region ?_
 refine TL.c (Step.load_box_agg (n := 10) (qs := [cI a.f0, cI a.f1, cI a.f2, .row 1015 [], .row 1019 [], cI a.f5.f0, cI a.f5.f1, .row 3023 [], .row 4023 [], .row 5023 []]) rfl rfl (lt_ok rfl) (by kernel_rfl) rfl rfl rfl rfl) ?_
 refine TL.c (Step.store_box (n := 10) (p := (.agg [cI a.f0, cI a.f1, cI a.f2, .row 1015 [], .row 1019 [], cI a.f5.f0, cI a.f5.f1, .row 3023 [], .row 4023 [], .row 5023 []])) (qs := [cI a.f0, cI a.f1, cI a.f2, .row 1015 [], .row 1019 [], cI a.f5.f0, cI a.f5.f1, .row 3023 [], .row 4023 [], .row 5023 []]) (ps' := [cI a.f0, cI a.f1, cI a.f2, .row 1015 [], .row 1019 [], cI a.f5.f0, cI a.f5.f1, .row 3023 [], .row 4023 [], .row 5023 []]) rfl rfl (by kernel_rfl) rfl rfl rfl rfl rfl rfl (le_ok rfl) rfl) ?_
 refine TL.nil ?_
 refine T.ret ?_
 refine ⟨[(true, [cI a.f0, cI a.f1, cI a.f2, .row 1015 [], .row 1019 [], cI a.f5.f0, cI a.f5.f1, .row 3023 [], .row 4023 [], .row 5023 []])], (.cons rfl .nil), rfl, [1015, 1019, 3023, 4023, 5023], (RetC.rd' rfl (RetC.rd' rfl (RetC.rd' rfl (RetC.own' rfl ?_ rfl (RetC.own' rfl ?_ rfl (RetC.rd' rfl (RetC.rd' rfl (RetC.own' rfl ?_ rfl (RetC.own' rfl ?_ rfl (RetC.own' rfl ?_ rfl .nil))))))))))⟩ <;> (rfl)
theorem ok_laws_toBlock (a : SBlock) (h0_ : a.sm) : RO Try.prog 28 [.agg a.cells] [(true, [.rd (.int .i64 a.f0.f0), .rd (.int .i64 a.f0.f1), .rd (.int .i64 a.f0.f2), .own 5 (.ints .u8 a.f0.f3), .own 5 (.ints .u8 a.f0.f4), .rd (.int .i64 a.f0.f5.f0), .rd (.int .i64 a.f0.f5.f1), .own 5 (.ints .u8 a.f0.f5.f2), .own 5 (.ints .u8 a.f0.f5.f3), .own 24 (.bss a.f0.f5.f4), .own 24 (.bss a.f1)])] := by
 refine RO.intro Try.func28 rfl 13 rfl (le_ok rfl) fun w Z => ?_
 obtain ⟨s0, s1⟩ := h0_
 refine T.seq ?_
 refine T.region ?_
 refine TL.c (Step.box (p := (.agg [cI a.f0.f0, cI a.f0.f1, cI a.f0.f2, cS a.f0.f3, cS a.f0.f4, cI a.f0.f5.f0, cI a.f0.f5.f1, cS a.f0.f5.f2, cS a.f0.f5.f3, .d (.bss a.f0.f5.f4), .d (.bss a.f1)])) (ps := [cI a.f0.f0, cI a.f0.f1, cI a.f0.f2, cS a.f0.f3, cS a.f0.f4, cI a.f0.f5.f0, cI a.f0.f5.f1, cS a.f0.f5.f2, cS a.f0.f5.f3, .d (.bss a.f0.f5.f4), .d (.bss a.f1)]) rfl rfl (lt_ok rfl) rfl rfl rfl rfl rfl) ?_
 refine TL.c (Step.alloc (cs := [.int .i64 0, .int .i64 0, .int .i64 0, .slice none 0 0, .slice none 0 0, .int .i64 0, .int .i64 0, .slice none 0 0, .slice none 0 0, .slice none 0 0, .slice none 0 0]) (ps := [cI 0, cI 0, cI 0, .nil, .nil, cI 0, cI 0, .nil, .nil, .nil, .nil]) rfl rfl (lt_ok rfl) (by kernel_rfl) rfl rfl rfl rfl) ?_
 refine TL.nil ?_
 refine T.seq ?_
 refine T.region ?_
 refine TL.c (Step.alloc (cs := [.int .i64 0, .int .i64 0, .int .i64 0, .slice none 0 0, .slice none 0 0, .int .i64 0, .int .i64 0, .slice none 0 0, .slice none 0 0, .slice none 0 0, .slice none 0 0]) (ps := [cI 0, cI 0, cI 0, .nil, .nil, cI 0, cI 0, .nil, .nil, .nil, .nil]) rfl rfl (lt_ok rfl) (by kernel_rfl) rfl rfl rfl rfl) ?_
 refine TL.nil ?_
 refine T.seq ?_
 refine T.region ?_
 refine TL.c (Step.fieldAddr (q := 0) (off := 0) (n := 10) (one := false) rfl rfl (lt_ok rfl) (by kernel_rfl) (Nat.succ_ne_zero _) rfl) ?_
 refine TL.c (Step.load_box_agg (n := 10) (qs := [cI a.f0.f0, cI a.f0.f1, cI a.f0.f2, cS a.f0.f3, cS a.f0.f4, cI a.f0.f5.f0, cI a.f0.f5.f1, cS a.f0.f5.f2, cS a.f0.f5.f3, .d (.bss a.f0.f5.f4)]) rfl rfl (lt_ok rfl) (by kernel_rfl) rfl rfl rfl rfl) ?_
 refine TL.c (Step.cl (xs := [.tmp 5]) (ps := [(.agg [cI a.f0.f0, cI a.f0.f1, cI a.f0.f2, cS a.f0.f3, cS a.f0.f4, cI a.f0.f5.f0, cI a.f0.f5.f1, cS a.f0.f5.f2, cS a.f0.f5.f3, .d (.bss a.f0.f5.f4)])]) (g := .func 50) false (.cons (.agg (.cons (.d _) (.cons (.d _) (.cons (.d _) (.cons (.d _) (.cons (.d _) (.cons (.d _) (.cons (.d _) (.cons (.d _) (.cons (.d _) (.cons (.d _) .nil))))))))))) .nil) (ok_laws_toHead a.f0 (by first | assumption | exact ⟨‹_›, ‹_›⟩ | (refine mem_getD (p := SHead.sm) h0_.2 (by omega)) | exact mem_getD h0_.2 (by omega)))) ?_
 refine TL.c (Step.fieldAddr (q := 0) (off := 0) (n := 10) (one := false) rfl rfl (lt_ok rfl) (by kernel_rfl) (Nat.succ_ne_zero _) rfl) ?_
 refine TL.c (Step.store_box (n := 10) (p := (.agg [cI a.f0.f0, cI a.f0.f1, cI a.f0.f2, .row 4006 [], .row 5006 [], cI a.f0.f5.f0, cI a.f0.f5.f1, .row 8006 [], .row 9006 [], .row 10006 []])) (qs := [cI a.f0.f0, cI a.f0.f1, cI a.f0.f2, .row 4006 [], .row 5006 [], cI a.f0.f5.f0, cI a.f0.f5.f1, .row 8006 [], .row 9006 [], .row 10006 []]) (ps' := [cI a.f0.f0, cI a.f0.f1, cI a.f0.f2, .row 4006 [], .row 5006 [], cI a.f0.f5.f0, cI a.f0.f5.f1, .row 8006 [], .row 9006 [], .row 10006 [], .nil]) rfl rfl (by kernel_rfl) rfl rfl rfl rfl rfl rfl (le_ok rfl) rfl) ?_
 refine TL.nil ?_
 refine T.seq ?_
 refine T.region ?_
 refine TL.c (Step.fieldAddr (q := 0) (off := 10) (n := 1) (one := true) rfl rfl (lt_ok rfl) (by kernel_rfl) (Nat.succ_ne_zero _) rfl) ?_
 refine TL.c (Step.load_box (c := .d (.bss a.f1)) rfl rfl (lt_ok rfl) (by kernel_rfl) rfl rfl rfl) ?_
 refine TL.c (Step.cl (xs := [.tmp 9]) (ps := [(.one (.d (.bss a.f1)))]) (g := .func 56) false (.cons (.one (.d _)) .nil) (ok_laws_toByteSS a.f1 (by first | assumption | exact ⟨‹_›, ‹_›⟩ | exact mem_getD h0_.2 (by omega)))) ?_
 refine TL.c (Step.fieldAddr (q := 0) (off := 10) (n := 1) (one := true) rfl rfl (lt_ok rfl) (by kernel_rfl) (Nat.succ_ne_zero _) rfl) ?_
 refine TL.c (Step.store_box (n := 1) (p := (.one (.row 1010 []))) (qs := [.row 1010 []]) (ps' := [cI a.f0.f0, cI a.f0.f1, cI a.f0.f2, .row 4006 [], .row 5006 [], cI a.f0.f5.f0, cI a.f0.f5.f1, .row 8006 [], .row 9006 [], .row 10006 [], .row 1010 []]) rfl rfl (by kernel_rfl) rfl rfl rfl rfl rfl rfl (le_ok rfl) rfl) ?_
 refine TL.nil ?_
 refine T.seq ?_
 refine T.region ?_
 refine TL.c (Step.load_box_agg (n := 11) (qs := [cI a.f0.f0, cI a.f0.f1, cI a.f0.f2, .row 4006 [], .row 5006 [], cI a.f0.f5.f0, cI a.f0.f5.f1, .row 8006 [], .row 9006 [], .row 10006 [], .row 1010 []]) rfl rfl (lt_ok rfl) (by kernel_rfl) rfl rfl rfl rfl) ?_
 refine TL.c (Step.store_box (n := 11) (p := (.agg [cI a.f0.f0, cI a.f0.f1, cI a.f0.f2, .row 4006 [], .row 5006 [], cI a.f0.f5.f0, cI a.f0.f5.f1, .row 8006 [], .row 9006 [], .row 10006 [], .row 1010 []])) (qs := [cI a.f0.f0, cI a.f0.f1, cI a.f0.f2, .row 4006 [], .row 5006 [], cI a.f0.f5.f0, cI a.f0.f5.f1, .row 8006 [], .row 9006 [], .row 10006 [], .row 1010 []]) (ps' := [cI a.f0.f0, cI a.f0.f1, cI a.f0.f2, .row 4006 [], .row 5006 [], cI a.f0.f5.f0, cI a.f0.f5.f1, .row 8006 [], .row 9006 [], .row 10006 [], .row 1010 []]) rfl rfl (by kernel_rfl) rfl rfl rfl rfl rfl rfl (le_ok rfl) rfl) ?_
 refine TL.nil ?_
 refine T.ret ?_
 refine ⟨[(true, [cI a.f0.f0, cI a.f0.f1, cI a.f0.f2, .row 4006 [], .row 5006 [], cI a.f0.f5.f0, cI a.f0.f5.f1, .row 8006 [], .row 9006 [], .row 10006 [], .row 1010 []])], (.cons rfl .nil), rfl, [4006, 5006, 8006, 9006, 10006, 1010], (RetC.rd' rfl (RetC.rd' rfl (RetC.rd' rfl (RetC.own' rfl ?_ rfl (RetC.own' rfl ?_ rfl (RetC.rd' rfl (RetC.rd' rfl (RetC.own' rfl ?_ rfl (RetC.own' rfl ?_ rfl (RetC.own' rfl ?_ rfl (RetC.own' rfl ?_ rfl .nil)))))))))))⟩ <;> (rfl)
theorem ok_impl_copyBytes (a : List Int) (h0_ : a.length ≤ 17592186044416) : RO Try.prog 76 [.one (.ints .u8 a)] [(false, [.own 5 (.ints .u8 a)])] := by
 refine RO.intro Try.func76 rfl 6 rfl (le_ok rfl) fun w Z => ?_
 refine T.bnd 0 0 rfl rfl fun hb_0_0 => ?_
 simp only [D.size, List.length_map] at hb_0_0
 refine T.seq ?_
 refine T.region ?_
 refine TL.as (.one (.nil)) ?_
 refine TL.nil ?_
 refine T.seq ?_
 refine T.region ?_
 refine TL.c (Step.lit (e := 5) (z := 1) (by_ := 1) (xs := []) (pss := []) (es := []) (ss := []) (d := (.ints .u8 [])) rfl rfl (lt_ok rfl) (by kernel_rfl) rfl rfl .nil (by simp) (le_ok rfl) (le_ok rfl) rfl .nil rfl (by simp) (by simp) rfl trivial rfl rfl) ?_
 refine TL.mv (pS a) ?_
 refine TL.c (Step.append (e := 5) (z := 1) (by_ := 1) (d := (.ints .u8 [])) (dy := (.ints .u8 a)) (d' := (.ints .u8 ([] ++ a))) (ss := []) rfl rfl (lt_ok rfl) (by kernel_rfl) rfl rfl rfl (lt_ok rfl) rfl (.froz rfl (by simp [D.flat, D.val])) (by simp) rfl (by simp only [D.size, List.length_map]; first | omega | (simp only [List.length_append, List.length_cons, List.length_nil]; omega) | (simp; omega) | (simp only [List.length_append] at *; omega)) (by simp only [D.size, List.length_map]; first | omega | (simp only [List.length_append, List.length_cons, List.length_nil]; omega) | (simp; omega) | (simp only [List.length_append] at *; omega)) (by simp)) ?_
 refine TL.as (.one (.row 3 [])) ?_
 refine TL.nil ?_
 refine T.ret ?_
 refine ⟨[(false, [.row 3 []])], (.cons rfl .nil), rfl, [3], (RetC.own' rfl ?_ rfl .nil)⟩ <;> (rfl)
theorem ok_impl_within (n : Int) (low : Int) (high : Int) : RO Try.prog 117 [.one (.int .i64 n), .one (.int .i64 low), .one (.int .i64 high)] [(false, [.rd (.bool (decide (low ≤ n ∧ n ≤ high)))])] := by
 refine RO.intro Try.func117 rfl 15 rfl (le_ok rfl) fun w Z => ?_
 refine T.seq ?_
 refine T.region ?_
 refine TL.as (pB false) ?_
 refine TL.nil ?_
 refine T.seq ?_
 refine T.region ?_
 refine TL.mv (pI low) ?_
 refine TL.mv (pI n) ?_
 refine TL.c (Step.bin rfl rfl (lt_ok rfl) rfl rfl (Bin.leq (k := .i64) (a := low) (b := n))) ?_
 refine TL.mv (pB (decide (low ≤ n))) ?_
 rcases Bool.eq_false_or_eq_true (decide (low ≤ n)) with hb1 | hb1
 ·
  refine TL.known 10 hb1 rfl ?_
  refine TL.gm 10 (pI n) ?_
  refine TL.gm 10 (pI high) ?_
  refine TL.gy 10 (Step.bin rfl rfl (lt_ok rfl) rfl rfl (Bin.leq (k := .i64) (a := n) (b := high))) ?_
  refine TL.pk true (pB (decide (n ≤ high))) ?_
  refine TL.as (pB (decide (n ≤ high))) ?_
  refine TL.nil ?_
  refine T.ret ?_
  refine ⟨[(false, [.d (.bool (decide (n ≤ high)))])], (.cons rfl .nil), rfl, [], (RetC.rd' ?_ .nil)⟩ <;> (first | (congr 1; simp_all; done) | (congr 1; simp_all; omega))
 ·
  refine TL.known 10 hb1 rfl ?_
  refine TL.gf 10 ?_
  refine TL.gf 10 ?_
  refine TL.gf 10 ?_
  refine TL.pk false (pB false) ?_
  refine TL.as (pB false) ?_
  refine TL.nil ?_
  refine T.ret ?_
  refine ⟨[(false, [.d (.bool false)])], (.cons rfl .nil), rfl, [], (RetC.rd' ?_ .nil)⟩ <;> (first | (congr 1; simp_all; done) | (congr 1; simp_all; omega))
theorem ok_impl_isNum (n : Int) : RO Try.prog 155 [.one (.int .i64 n)] [(false, [.rd (.bool (decide (0 ≤ n ∧ n ≤ 1152921504606846975)))])] := by
 refine RO.intro Try.func155 rfl 5 rfl (le_ok rfl) fun w Z => ?_
 refine T.seq ?_
 refine T.region ?_
 refine TL.as (pB false) ?_
 refine TL.nil ?_
 refine T.seq ?_
 refine T.region ?_
 refine TL.mv (pI n) ?_
 refine TL.c (Step.cl (xs := [.tmp 3, .const (.int .i64 0), .const (.int .i64 1152921504606846975)]) (ps := [(pI n), (pI 0), (pI 1152921504606846975)]) (g := .func 117) false (.cons (.one (.d _)) (.cons (.one (.d _)) (.cons (.one (.d _)) .nil))) (ok_impl_within n 0 1152921504606846975)) ?_
 refine TL.as (pB (decide (0 ≤ n ∧ n ≤ 1152921504606846975))) ?_
 refine TL.nil ?_
 refine T.ret ?_
 exact ⟨[(false, [.d (.bool (decide (0 ≤ n ∧ n ≤ 1152921504606846975)))])], (.cons rfl .nil), rfl, [], (RetC.rd' rfl .nil)⟩
theorem ok_impl_PutVar (b : List Int) (n : Int) (h0_ : b.length ≤ 17592186044416) : RO Try.prog 129 [.one (.ints .u8 b), .one (.int .i64 n)] [(false, [.own 5 (.ints .u8 (putVar b n))]), (false, [.rd (.bool (decide (0 ≤ n ∧ n ≤ 1152921504606846975)))])] := by
 refine RO.intro Try.func129 rfl 28 rfl (le_ok rfl) fun w Z => ?_
 refine T.bnd 0 0 rfl rfl fun hb_0_0 => ?_
 simp only [D.size, List.length_map] at hb_0_0
 refine T.seq ?_
 refine T.region ?_
 refine TL.as (.one (.nil)) ?_
 refine TL.as (pB false) ?_
 refine TL.nil ?_
 refine T.seq ?_
 refine T.seq ?_
 refine T.region ?_
 refine TL.mv (pI n) ?_
 refine TL.c (Step.cl (xs := [.tmp 7]) (ps := [(pI n)]) (g := .func 155) false (.cons (.one (.d _)) .nil) (ok_impl_isNum n)) ?_
 refine TL.c (Step.not (b := (decide (0 ≤ n ∧ n ≤ 1152921504606846975))) rfl rfl (lt_ok rfl) rfl) ?_
 refine TL.nil ?_
 refine T.cond (b := !(decide (0 ≤ n ∧ n ≤ 1152921504606846975))) rfl (fun h1 => ?_) (fun h1 => ?_)
 ·
  replace h1 : (decide (0 ≤ n ∧ n ≤ 1152921504606846975)) = false := by simpa only [Bool.not_eq_true', Bool.not_eq_false'] using h1
  replace h1 := of_decide_eq_false h1
  refine T.seq ?_
  refine T.region ?_
  refine TL.as (.one (.nil)) ?_
  refine TL.as (pB false) ?_
  refine TL.nil ?_
  refine T.ret ?_
  refine ⟨[(false, [.nil]), (false, [.d (.bool false)])], (.cons rfl (.cons rfl .nil)), rfl, [], (RetC.nilown' rfl ?_ (by first | exact trivial | exact D.wf_nil _) (RetC.rd' ?_ .nil))⟩ <;> (first | rfl | (congr 1; unfold putVar; rw [if_pos (decide_eq_true (by assumption))]; rw [← hx3, varW_last (n := m) (by omega)]; done) | (show (putVar b n).length = 0; rw [putVar, if_neg (by rw [decide_eq_true_eq]; assumption)]; rfl) | (congr 1; symm; first | exact decide_eq_true ‹_› | exact decide_eq_false ‹_›))
 ·
  replace h1 : (decide (0 ≤ n ∧ n ≤ 1152921504606846975)) = true := by simpa only [Bool.not_eq_true', Bool.not_eq_false'] using h1
  replace h1 := of_decide_eq_true h1
  refine T.skip ?_
  refine T.seq ?_
  refine T.region ?_
  refine TL.mv (pS b) ?_
  refine TL.c (Step.cl (xs := [.tmp 10]) (ps := [(pS b)]) (g := .func 76) false (.cons (.one (.d _)) .nil) (ok_impl_copyBytes b (by first | omega | assumption | (simp only [List.length_take, List.length_drop]; omega)))) ?_
  refine TL.as (.one (.row 1011 [])) ?_
  refine TL.nil ?_
  refine T.seq ?_
  refine T.block ?_
  refine T.loop (ι := (List Int) × Int) (fun xx_ => { tm := [(4, (.one (.nil))), (5, (pB false)), (1, (pI (xx_.2))), (6, (.one (.row 1011 [])))], rows := [(1011, (5, (.ints .u8 (xx_.1))))], boxes := [] }) (fun xx_ => 0 ≤ (xx_.2) ∧ (xx_.2) ≤ 1152921504606846975 ∧ (xx_.1) ++ varW (xx_.2) = b ++ varW n ∧ (xx_.1).length ≤ b.length + 9) (fun xx_ => (xx_.2).toNat) (b, n) ?_ ?_ ?_
  · refine Env.le_mk ⟨rfl, rfl, ?_, rfl, trivial⟩ ⟨?_, trivial⟩ trivial <;> (first | rfl | (refine congrArg (fun x => some (_, D.ints .u8 x)) ?_; rfl))
  · (dsimp only; refine ⟨by omega, by omega, rfl, by omega⟩)
  ·
   intro xx_ hx
   obtain ⟨o, m⟩ := xx_
   try dsimp only at hx ⊢
   obtain ⟨hx1, hx2, hx3, hx4⟩ := hx
   refine T.seq ?_
   refine T.seq ?_
   refine T.region ?_
   refine TL.mv (pI m) ?_
   refine TL.c (Step.bin rfl rfl (lt_ok rfl) rfl rfl (Bin.geq (k := .i64) (a := m) (b := 128))) ?_
   refine TL.nil ?_
   refine T.cond (b := decide (128 ≤ m)) rfl (fun h2 => ?_) (fun h2 => ?_)
   ·
    replace h2 := of_decide_eq_true h2
    refine T.skip ?_
    refine T.block ?_
    refine T.seq ?_
    refine T.region ?_
    refine TL.mv (.one (.row 1011 [])) ?_
    refine TL.mv (pI m) ?_
    refine TL.c (Step.bin (r := .int .i64 (m % 128)) rfl rfl (lt_ok rfl) rfl rfl (Bin.rem (k := .i64) (a := m) (b := 128) (by decide) (Int.tmod_eq_emod_of_nonneg (by first | omega | (simp; omega))))) ?_
    refine TL.c (Step.bin (r := .int .i64 ((m % 128) + 128)) rfl rfl (lt_ok rfl) rfl rfl (Bin.add (a := (m % 128)) (b := 128) (by first | exact wrap_ok (by first | omega | (simp; omega)) (by first | omega | (simp; omega)) | rfl))) ?_
    refine TL.c (Step.conv (c := ((m % 128) + 128)) rfl rfl (lt_ok rfl) (by kernel_rfl) (by kernel_rfl) rfl (wrap_u8 (by first | omega | (simp; omega)) (by first | omega | (simp; omega)))) ?_
    refine TL.c (Step.lit (e := 5) (z := 1) (by_ := 1) (xs := [.tmp 18]) (pss := [[.d (.int .u8 ((m % 128) + 128))]]) (es := [(.int .u8 ((m % 128) + 128))]) (ss := []) (d := (.ints .u8 [(m % 128) + 128])) rfl rfl (lt_ok rfl) (by kernel_rfl) rfl rfl (.cons rfl .nil) (by simp) (le_ok rfl) (le_ok rfl) rfl (.val rfl .nil) rfl (by simp) (by simp) rfl trivial rfl rfl) ?_
    refine TL.c (Step.append (e := 5) (z := 1) (by_ := 1) (d := (.ints .u8 o)) (dy := (.ints .u8 [(m % 128) + 128])) (d' := (.ints .u8 (o ++ [(m % 128) + 128]))) (ss := []) rfl rfl (lt_ok rfl) (by kernel_rfl) rfl rfl rfl (lt_ok rfl) rfl (.copy rfl rfl rfl (by simp [D.flat, D.val])) (by simp) rfl (by simp only [D.size, List.length_map]; first | omega | (simp only [List.length_append, List.length_cons, List.length_nil]; omega) | (simp; omega) | (simp only [List.length_append] at *; omega)) (by simp only [D.size, List.length_map]; first | omega | (simp only [List.length_append, List.length_cons, List.length_nil]; omega) | (simp; omega) | (simp only [List.length_append] at *; omega)) (by simp)) ?_
    refine TL.as (.one (.row 1011 [])) ?_
    refine TL.nil ?_
    refine T.region ?_
    refine TL.mv (pI m) ?_
    refine TL.c (Step.bin (r := .int .i64 (m / 128)) rfl rfl (lt_ok rfl) rfl rfl (Bin.quo (k := .i64) (a := m) (b := 128) (by decide) (by rw [Int.tdiv_eq_ediv_of_nonneg (by first | omega | (simp; omega))]; exact wrap_ok (by first | omega | (simp; omega)) (by first | omega | (simp; omega))))) ?_
    refine TL.as (pI (m / 128)) ?_
    refine TL.nil ?_
    refine ⟨(o ++ [(m % 128) + 128], m / 128), by (refine ⟨by omega, by omega, by rw [← hx3, varW_next (n := m) (by omega)]; simp [Int.add_comm], ?_⟩; have e_ := congrArg List.length hx3; rw [varW_next (n := m) (by omega)] at e_; have := varW_len9 (n := n) (by omega); simp only [List.length_append, List.length_cons, List.length_nil] at e_ ⊢; omega), by (dsimp only; omega), Env.le_mk ⟨rfl, rfl, ?_, rfl, trivial⟩ ⟨?_, trivial⟩ trivial⟩ <;> (first | rfl | (refine congrArg (fun x => some (_, D.ints .u8 x)) ?_; rfl))
   ·
    replace h2 := of_decide_eq_false h2
    refine T.exit ?_
    refine T.seq ?_
    refine T.region ?_
    refine TL.mv (.one (.row 1011 [])) ?_
    refine TL.mv (pI m) ?_
    refine TL.c (Step.conv (c := m) rfl rfl (lt_ok rfl) (by kernel_rfl) (by kernel_rfl) rfl (wrap_u8 (by first | omega | (simp; omega)) (by first | omega | (simp; omega)))) ?_
    refine TL.c (Step.lit (e := 5) (z := 1) (by_ := 1) (xs := [.tmp 25]) (pss := [[.d (.int .u8 m)]]) (es := [(.int .u8 m)]) (ss := []) (d := (.ints .u8 [m])) rfl rfl (lt_ok rfl) (by kernel_rfl) rfl rfl (.cons rfl .nil) (by simp) (le_ok rfl) (le_ok rfl) rfl (.val rfl .nil) rfl (by simp) (by simp) rfl trivial rfl rfl) ?_
    refine TL.c (Step.append (e := 5) (z := 1) (by_ := 1) (d := (.ints .u8 o)) (dy := (.ints .u8 [m])) (d' := (.ints .u8 (o ++ [m]))) (ss := []) rfl rfl (lt_ok rfl) (by kernel_rfl) rfl rfl rfl (lt_ok rfl) rfl (.copy rfl rfl rfl (by simp [D.flat, D.val])) (by simp) rfl (by simp only [D.size, List.length_map]; first | omega | (simp only [List.length_append, List.length_cons, List.length_nil]; omega) | (simp; omega) | (simp only [List.length_append] at *; omega)) (by simp only [D.size, List.length_map]; first | omega | (simp only [List.length_append, List.length_cons, List.length_nil]; omega) | (simp; omega) | (simp only [List.length_append] at *; omega)) (by simp)) ?_
    refine TL.as (.one (.row 1011 [])) ?_
    refine TL.as (pB true) ?_
    refine TL.nil ?_
    refine T.ret ?_
    refine ⟨[(false, [.row 1011 []]), (false, [.d (.bool true)])], (.cons rfl (.cons rfl .nil)), rfl, [1011], (RetC.own' rfl ?_ rfl (RetC.rd' ?_ .nil))⟩ <;> (first | rfl | (congr 1; unfold putVar; rw [if_pos (decide_eq_true (by assumption))]; rw [← hx3, varW_last (n := m) (by omega)]; done) | (show (putVar b n).length = 0; rw [putVar, if_neg (by rw [decide_eq_true_eq]; assumption)]; rfl) | (congr 1; symm; first | exact decide_eq_true ‹_› | exact decide_eq_false ‹_›))
theorem ok_impl_writer__num (b : List Int) (n : Int) (h0_ : b.length ≤ 17592186044416) : BX Try.prog 77 [.bx, .rd (.one (.int .i64 n))] 98 [.own 5 (.ints .u8 b)] [.own 5 (.ints .u8 (putVar b n))] [] := by
 refine BX.intro Try.func77 rfl 16 rfl (le_ok rfl) (le_ok rfl) fun w Z IX pin hp => ?_
 refine T.bndRow 900 rfl fun hb_900 => ?_
 simp only [D.size, List.length_map] at hb_900
 refine T.region ?_
 refine TL.mv (.one (.ptr 800 0)) ?_
 refine TL.mv (.one (.ptr 800 0)) ?_
 refine TL.c (Step.nilCheck rfl rfl (lt_ok rfl) rfl) ?_
 refine TL.c (Step.fieldAddr (q := 0) (off := 0) (n := 1) (one := true) rfl rfl (lt_ok rfl) (by kernel_rfl) (Nat.succ_ne_zero _) rfl) ?_
 refine TL.c (Step.load_box (c := .row 900 []) rfl rfl (lt_ok rfl) (by kernel_rfl) rfl rfl rfl) ?_
 refine TL.mv (pI n) ?_
 have nn1 := putVar_len b n
 refine TL.c (Step.call (f := 129) (xs := [.tmp 9, .tmp 10]) (ps := [(.one (.row 900 [])), (pI n)]) false (g := .func 129) rfl rfl (lt_ok rfl) rfl (by kernel_rfl) rfl (.cons (.one (.row rfl rfl rfl rfl)) (.cons (.one (.d _)) .nil)) (ok_impl_PutVar b n (by first | omega | assumption | (simp only [List.length_append] at *; omega))) (.inr rfl) rfl (fun x hx => by have := hp x hx; omega) rfl) ?_
 refine TL.mv (.tup [(false, [.row 1011 []]), (false, [.d (.bool (decide (0 ≤ n ∧ n ≤ 1152921504606846975)))])]) ?_
 refine TL.c (Step.extract (p := (.one (.row 1011 []))) rfl rfl (lt_ok rfl) rfl rfl) ?_
 refine TL.c (Step.extract (p := (pB (decide (0 ≤ n ∧ n ≤ 1152921504606846975)))) rfl rfl (lt_ok rfl) rfl rfl) ?_
 refine TL.c (Step.nilCheck rfl rfl (lt_ok rfl) rfl) ?_
 refine TL.c (Step.fieldAddr (q := 0) (off := 0) (n := 1) (one := true) rfl rfl (lt_ok rfl) (by kernel_rfl) (Nat.succ_ne_zero _) rfl) ?_
 refine TL.c (Step.store_box (n := 1) (p := (.one (.row 1011 []))) (qs := [.row 1011 []]) (ps' := [.row 1011 []]) rfl rfl (by kernel_rfl) rfl rfl rfl rfl rfl rfl (le_ok rfl) rfl) ?_
 refine TL.nil ?_
 refine ⟨[.row 1011 []], [], rfl, rfl, .nil, rfl, [1011], (RetC.own' rfl ?_ rfl .nil)⟩ <;> (rfl)
theorem ok_impl_writer__raw (b : List Int) (x : List Int) (h0_ : b.length ≤ 17592186044416) (h1_ : x.length ≤ 17592186044416) : BX Try.prog 130 [.bx, .rd (.one (.ints .u8 x))] 98 [.own 5 (.ints .u8 b)] [.own 5 (.ints .u8 (b ++ x))] [] := by
 refine BX.intro Try.func130 rfl 13 rfl (le_ok rfl) (le_ok rfl) fun w Z IX pin hp => ?_
 refine T.bndRow 900 rfl fun hb_900 => ?_
 simp only [D.size, List.length_map] at hb_900
 refine T.bnd 1 0 rfl rfl fun hb_1_0 => ?_
 simp only [D.size, List.length_map] at hb_1_0
 refine T.region ?_
 refine TL.mv (.one (.ptr 800 0)) ?_
 refine TL.mv (.one (.ptr 800 0)) ?_
 refine TL.c (Step.nilCheck rfl rfl (lt_ok rfl) rfl) ?_
 refine TL.c (Step.fieldAddr (q := 0) (off := 0) (n := 1) (one := true) rfl rfl (lt_ok rfl) (by kernel_rfl) (Nat.succ_ne_zero _) rfl) ?_
 refine TL.c (Step.load_box (c := .row 900 []) rfl rfl (lt_ok rfl) (by kernel_rfl) rfl rfl rfl) ?_
 refine TL.mv (pS x) ?_
 refine TL.c (Step.append (e := 5) (z := 1) (by_ := 1) (d := (.ints .u8 b)) (dy := (.ints .u8 x)) (d' := (.ints .u8 (b ++ x))) (ss := []) rfl rfl (lt_ok rfl) (by kernel_rfl) rfl rfl rfl (lt_ok rfl) rfl (.froz rfl (by simp [D.flat, D.val])) (by simp) rfl (by simp only [D.size, List.length_map]; first | omega | (simp only [List.length_append, List.length_cons, List.length_nil]; omega) | (simp; omega) | (simp only [List.length_append] at *; omega)) (by simp only [D.size, List.length_map]; first | omega | (simp only [List.length_append, List.length_cons, List.length_nil]; omega) | (simp; omega) | (simp only [List.length_append] at *; omega)) (fun x hx => by have := hp x hx; omega)) ?_
 refine TL.c (Step.nilCheck rfl rfl (lt_ok rfl) rfl) ?_
 refine TL.c (Step.fieldAddr (q := 0) (off := 0) (n := 1) (one := true) rfl rfl (lt_ok rfl) (by kernel_rfl) (Nat.succ_ne_zero _) rfl) ?_
 refine TL.c (Step.store_box (n := 1) (p := (.one (.row 900 []))) (qs := [.row 900 []]) (ps' := [.row 900 []]) rfl rfl (by kernel_rfl) rfl rfl rfl rfl rfl rfl (le_ok rfl) rfl) ?_
 refine TL.nil ?_
 refine ⟨[.row 900 []], [], rfl, rfl, .nil, rfl, [900], (RetC.own' rfl ?_ rfl .nil)⟩ <;> (rfl)
theorem ok_impl_writer__qc (b : List Int) (q : SQc) (h0_ : b.length ≤ 8796093022208) (h1_ : q.sm) : BX Try.prog 79 [.bx, .rd (.agg [(.int .i64 q.f0), (.int .i64 q.f1), (.ints .u8 q.f2), (.ints .u8 q.f3), (.bss q.f4)])] 98 [.own 5 (.ints .u8 b)] [.own 5 (.ints .u8 (putQcB b q))] [] := by
 refine BX.intro Try.func79 rfl 33 rfl (le_ok rfl) (le_ok rfl) fun w Z IX pin hp => ?_
 refine T.bndRow 900 rfl fun hb_900 => ?_
 simp only [D.size, List.length_map] at hb_900
 obtain ⟨s0, s1, s2⟩ := h1_
 refine T.seq ?_
 refine T.region ?_
 refine TL.c (Step.box (p := (.agg [cI q.f0, cI q.f1, cS q.f2, cS q.f3, .d (.bss q.f4)])) (ps := [cI q.f0, cI q.f1, cS q.f2, cS q.f3, .d (.bss q.f4)]) rfl rfl (lt_ok rfl) rfl rfl rfl rfl rfl) ?_
 refine TL.nil ?_
 refine T.seq ?_
 refine T.region ?_
 refine TL.mv (.one (.ptr 800 0)) ?_
 refine TL.c (Step.fieldAddr (q := 0) (off := 0) (n := 1) (one := true) rfl rfl (lt_ok rfl) (by kernel_rfl) (Nat.succ_ne_zero _) rfl) ?_
 refine TL.c (Step.load_box (c := cI q.f0) rfl rfl (lt_ok rfl) (by kernel_rfl) rfl rfl rfl) ?_
 have nn1 := putVar_len b q.f0
 refine TL.c (Step.callX2 (b := 800) (xs := [.tmp 6, .tmp 8]) (ps := [(.one (.ptr 800 0)), (pI q.f0)]) (bps := [.row 900 []]) (ss := [900]) (g := .func 77) (ok_impl_writer__num b q.f0 (by first | omega | assumption | (simp only [List.length_append] at *; omega))) rfl rfl (lt_ok rfl) rfl (by kernel_rfl) rfl (.cons (.bx) (.cons (.rd (.one (.d _))) .nil)) rfl (.own rfl (by simp) .nil) rfl rfl (fun x hx => by have := hp x hx; omega) rfl) ?_
 refine TL.ren 1009 180000 rfl (fun x hx => by have := hp x hx; omega) ?_
 refine TL.nil ?_
 refine T.seq ?_
 refine T.region ?_
 refine TL.mv (.one (.ptr 800 0)) ?_
 refine TL.c (Step.fieldAddr (q := 0) (off := 1) (n := 1) (one := true) rfl rfl (lt_ok rfl) (by kernel_rfl) (Nat.succ_ne_zero _) rfl) ?_
 refine TL.c (Step.load_box (c := cI q.f1) rfl rfl (lt_ok rfl) (by kernel_rfl) rfl rfl rfl) ?_
 have nn2 := putVar_len (putVar b q.f0) q.f1
 refine TL.c (Step.callX2 (b := 800) (xs := [.tmp 10, .tmp 12]) (ps := [(.one (.ptr 800 0)), (pI q.f1)]) (bps := [.row 180000 []]) (ss := [180000]) (g := .func 77) (ok_impl_writer__num (putVar b q.f0) q.f1 (by first | omega | assumption | (simp only [List.length_append] at *; omega))) rfl rfl (lt_ok rfl) rfl (by kernel_rfl) rfl (.cons (.bx) (.cons (.rd (.one (.d _))) .nil)) rfl (.own rfl (by simp) .nil) rfl rfl (fun x hx => by have := hp x hx; omega) rfl) ?_
 refine TL.ren 1013 180000 rfl (fun x hx => by have := hp x hx; omega) ?_
 refine TL.nil ?_
 refine T.seq ?_
 refine T.region ?_
 refine TL.mv (.one (.ptr 800 0)) ?_
 refine TL.c (Step.fieldAddr (q := 0) (off := 2) (n := 1) (one := true) rfl rfl (lt_ok rfl) (by kernel_rfl) (Nat.succ_ne_zero _) rfl) ?_
 refine TL.c (Step.load_box (c := cS q.f2) rfl rfl (lt_ok rfl) (by kernel_rfl) rfl rfl rfl) ?_
 refine TL.c (Step.callX2 (b := 800) (xs := [.tmp 14, .tmp 16]) (ps := [(.one (.ptr 800 0)), (pS q.f2)]) (bps := [.row 180000 []]) (ss := [180000]) (g := .func 130) (ok_impl_writer__raw (putVar (putVar b q.f0) q.f1) q.f2 (by first | omega | assumption | (simp only [List.length_append] at *; omega)) (by first | omega | assumption | (simp only [List.length_append] at *; omega))) rfl rfl (lt_ok rfl) rfl (by kernel_rfl) rfl (.cons (.bx) (.cons (.rd (.one (.d _))) .nil)) rfl (.own rfl (by simp) .nil) rfl rfl (fun x hx => by have := hp x hx; omega) rfl) ?_
 refine TL.ren 1017 180000 rfl (fun x hx => by have := hp x hx; omega) ?_
 refine TL.nil ?_
 refine T.seq ?_
 refine T.region ?_
 refine TL.mv (.one (.ptr 800 0)) ?_
 refine TL.c (Step.fieldAddr (q := 0) (off := 3) (n := 1) (one := true) rfl rfl (lt_ok rfl) (by kernel_rfl) (Nat.succ_ne_zero _) rfl) ?_
 refine TL.c (Step.load_box (c := cS q.f3) rfl rfl (lt_ok rfl) (by kernel_rfl) rfl rfl rfl) ?_
 refine TL.c (Step.callX2 (b := 800) (xs := [.tmp 18, .tmp 20]) (ps := [(.one (.ptr 800 0)), (pS q.f3)]) (bps := [.row 180000 []]) (ss := [180000]) (g := .func 130) (ok_impl_writer__raw ((putVar (putVar b q.f0) q.f1) ++ q.f2) q.f3 (by first | omega | assumption | (simp only [List.length_append] at *; omega)) (by first | omega | assumption | (simp only [List.length_append] at *; omega))) rfl rfl (lt_ok rfl) rfl (by kernel_rfl) rfl (.cons (.bx) (.cons (.rd (.one (.d _))) .nil)) rfl (.own rfl (by simp) .nil) rfl rfl (fun x hx => by have := hp x hx; omega) rfl) ?_
 refine TL.ren 1021 180000 rfl (fun x hx => by have := hp x hx; omega) ?_
 refine TL.nil ?_
 refine T.seq ?_
 refine T.region ?_
 refine TL.c (Step.fieldAddr (q := 0) (off := 4) (n := 1) (one := true) rfl rfl (lt_ok rfl) (by kernel_rfl) (Nat.succ_ne_zero _) rfl) ?_
 refine TL.c (Step.load_box (c := .d (.bss q.f4)) rfl rfl (lt_ok rfl) (by kernel_rfl) rfl rfl rfl) ?_
 refine TL.c (Step.len (e := 24) (z := 1) (d := (.bss q.f4)) rfl rfl (lt_ok rfl) (by kernel_rfl) rfl rfl) ?_
 refine TL.mv (pI 0) ?_
 refine TL.nil ?_
 refine T.block ?_
 refine T.loop (ι := Nat) (fun xx_ => { tm := [(0, (.one (.ptr 800 0))), (23, (.one (.d (.bss q.f4)))), (24, (pI (q.f4.length : Int))), (25, (pI (xx_ : Int)))], rows := [(180000, (5, (.ints .u8 ((q.f4.take xx_).foldl (fun b x => b ++ x) (putVar (putVar b q.f0) q.f1 ++ q.f2 ++ q.f3)))))], boxes := [(800, (98, [.row 180000 []])), (3, (38, [cI q.f0, cI q.f1, cS q.f2, cS q.f3, .d (.bss q.f4)]))] }) (fun xx_ => xx_ ≤ q.f4.length) (fun xx_ => q.f4.length - xx_) 0 ?_ ?_ ?_
 · refine Env.le_mk ⟨rfl, rfl, rfl, ?_, trivial⟩ ⟨?_, trivial⟩ ⟨rfl, rfl, trivial⟩ <;> (first | (refine congrArg (fun x => some (_, D.ints .u8 x)) ?_; first | (rw [foldl_take_succ _ _ _ i [] (by omega)]; done) | rfl) | rfl | (refine congrArg (fun n => PV.one (.d (.int .i64 n))) ?_; first | omega | (simp; done)))
 · exact Nat.zero_le _
 ·
  intro i hx
  try dsimp only at hx ⊢
  have hw_ := raws_len (b := putVar (putVar b q.f0) q.f1 ++ q.f2 ++ q.f3) s2.1 s2.2 i
  have hy_ := mem_len s2.2 i
  simp only [List.length_append] at hw_
  refine T.seq ?_
  refine T.region ?_
  refine TL.c (Step.bin rfl rfl (lt_ok rfl) rfl rfl (Bin.lss (k := .i64) (a := (i : Int)) (b := (q.f4.length : Int)))) ?_
  refine TL.nil ?_
  refine T.seq ?_
  refine T.cond (b := decide ((i : Int) < (q.f4.length : Int))) rfl (fun h3 => ?_) (fun h3 => ?_)
  ·
   replace h3 := of_decide_eq_true h3
   refine T.skip ?_
   refine T.seq ?_
   refine T.block ?_
   refine T.seq ?_
   refine T.region ?_
   refine TL.c (Step.index (e := 24) (z := 1) (i := (i : Int)) rfl rfl (lt_ok rfl) (by kernel_rfl) rfl rfl rfl (lt_ok rfl) rfl (by first | omega | (simp only [List.length_append] at *; omega) | (simp; omega)) (by simp only [D.size]; first | omega | (simp only [List.length_append] at *; omega) | (simp; omega))) ?_
   refine TL.c (Step.load (e := (.ints .u8 (q.f4.getD i []))) rfl rfl (lt_ok rfl) (by kernel_rfl) rfl rfl) ?_
   refine TL.as (pS (q.f4.getD i [])) ?_
   refine TL.nil ?_
   refine T.region ?_
   refine TL.mv (.one (.ptr 800 0)) ?_
   refine TL.mv (pS (q.f4.getD i [])) ?_
   refine TL.c (Step.callX2 (b := 800) (xs := [.tmp 29, .tmp 30]) (ps := [(.one (.ptr 800 0)), (pS (q.f4.getD i []))]) (bps := [.row 180000 []]) (ss := [180000]) (g := .func 130) (ok_impl_writer__raw ((q.f4.take i).foldl (fun b x => b ++ x) (putVar (putVar b q.f0) q.f1 ++ q.f2 ++ q.f3)) (q.f4.getD i []) (by first | omega | assumption | (simp only [List.length_append] at *; omega)) (by first | omega | assumption | (simp only [List.length_append] at *; omega))) rfl rfl (lt_ok rfl) rfl (by kernel_rfl) rfl (.cons (.bx) (.cons (.rd (.one (.d _))) .nil)) rfl (.own rfl (by simp) .nil) rfl rfl (fun x hx => by have := hp x hx; omega) rfl) ?_
   refine TL.ren 1031 180000 rfl (fun x hx => by have := hp x hx; omega) ?_
   refine TL.nil ?_
   refine T.region ?_
   refine TL.c (Step.bin (r := .int .i64 ((i : Int) + 1)) rfl rfl (lt_ok rfl) rfl rfl (Bin.add (a := (i : Int)) (b := 1) (by first | exact wrap_ok (by first | omega | (simp only [List.length_append] at *; omega) | (simp; omega)) (by first | omega | (simp only [List.length_append] at *; omega) | (simp; omega)) | rfl))) ?_
   refine TL.mv (pI ((i : Int) + 1)) ?_
   refine TL.nil ?_
   refine ⟨i + 1, by omega, by first | omega | (dsimp only; omega), Env.le_mk ⟨rfl, rfl, rfl, ?_, trivial⟩ ⟨?_, trivial⟩ ⟨rfl, rfl, trivial⟩⟩ <;> (first | (refine congrArg (fun x => some (_, D.ints .u8 x)) ?_; first | (rw [foldl_take_succ _ _ _ i [] (by omega)]; done) | rfl) | rfl | (refine congrArg (fun n => PV.one (.d (.int .i64 n))) ?_; first | omega | (simp; done)))
  ·
   replace h3 := of_decide_eq_false h3
   refine T.exit ?_
   refine ⟨[.row 180000 []], [], rfl, rfl, .nil, rfl, [180000], (RetC.own' rfl ?_ rfl .nil)⟩ <;> (first | rfl | (congr 1; unfold putQcB rawsB; rw [foldl_all _ _ _ i (by omega)]))
theorem ok_impl_writer__head (b : List Int) (h : SHead) (h0_ : b.length ≤ 8796000000000) (h1_ : h.sm) : BX Try.prog 78 [.bx, .rd (.agg [(.int .i64 h.f0), (.int .i64 h.f1), (.int .i64 h.f2), (.ints .u8 h.f3), (.ints .u8 h.f4), (.int .i64 h.f5.f0), (.int .i64 h.f5.f1), (.ints .u8 h.f5.f2), (.ints .u8 h.f5.f3), (.bss h.f5.f4)])] 98 [.own 5 (.ints .u8 b)] [.own 5 (.ints .u8 (putHeadB b h))] [] := by
 refine BX.intro Try.func78 rfl 28 rfl (le_ok rfl) (le_ok rfl) fun w Z IX pin hp => ?_
 refine T.bndRow 900 rfl fun hb_900 => ?_
 simp only [D.size, List.length_map] at hb_900
 obtain ⟨s0, s1, s2⟩ := h1_
 refine T.seq ?_
 refine T.region ?_
 refine TL.c (Step.box (p := (.agg [cI h.f0, cI h.f1, cI h.f2, cS h.f3, cS h.f4, cI h.f5.f0, cI h.f5.f1, cS h.f5.f2, cS h.f5.f3, .d (.bss h.f5.f4)])) (ps := [cI h.f0, cI h.f1, cI h.f2, cS h.f3, cS h.f4, cI h.f5.f0, cI h.f5.f1, cS h.f5.f2, cS h.f5.f3, .d (.bss h.f5.f4)]) rfl rfl (lt_ok rfl) rfl rfl rfl rfl rfl) ?_
 refine TL.nil ?_
 refine T.seq ?_
 refine T.region ?_
 refine TL.mv (.one (.ptr 800 0)) ?_
 refine TL.c (Step.fieldAddr (q := 0) (off := 0) (n := 1) (one := true) rfl rfl (lt_ok rfl) (by kernel_rfl) (Nat.succ_ne_zero _) rfl) ?_
 refine TL.c (Step.load_box (c := cI h.f0) rfl rfl (lt_ok rfl) (by kernel_rfl) rfl rfl rfl) ?_
 have nn1 := putVar_len b h.f0
 refine TL.c (Step.callX2 (b := 800) (xs := [.tmp 4, .tmp 6]) (ps := [(.one (.ptr 800 0)), (pI h.f0)]) (bps := [.row 900 []]) (ss := [900]) (g := .func 77) (ok_impl_writer__num b h.f0 (by first | omega | assumption | (simp only [List.length_append] at *; omega))) rfl rfl (lt_ok rfl) rfl (by kernel_rfl) rfl (.cons (.bx) (.cons (.rd (.one (.d _))) .nil)) rfl (.own rfl (by simp) .nil) rfl rfl (fun x hx => by have := hp x hx; omega) rfl) ?_
 refine TL.ren 1007 180000 rfl (fun x hx => by have := hp x hx; omega) ?_
 refine TL.nil ?_
 refine T.seq ?_
 refine T.region ?_
 refine TL.mv (.one (.ptr 800 0)) ?_
 refine TL.c (Step.fieldAddr (q := 0) (off := 1) (n := 1) (one := true) rfl rfl (lt_ok rfl) (by kernel_rfl) (Nat.succ_ne_zero _) rfl) ?_
 refine TL.c (Step.load_box (c := cI h.f1) rfl rfl (lt_ok rfl) (by kernel_rfl) rfl rfl rfl) ?_
 have nn2 := putVar_len (putVar b h.f0) h.f1
 refine TL.c (Step.callX2 (b := 800) (xs := [.tmp 8, .tmp 10]) (ps := [(.one (.ptr 800 0)), (pI h.f1)]) (bps := [.row 180000 []]) (ss := [180000]) (g := .func 77) (ok_impl_writer__num (putVar b h.f0) h.f1 (by first | omega | assumption | (simp only [List.length_append] at *; omega))) rfl rfl (lt_ok rfl) rfl (by kernel_rfl) rfl (.cons (.bx) (.cons (.rd (.one (.d _))) .nil)) rfl (.own rfl (by simp) .nil) rfl rfl (fun x hx => by have := hp x hx; omega) rfl) ?_
 refine TL.ren 1011 180000 rfl (fun x hx => by have := hp x hx; omega) ?_
 refine TL.nil ?_
 refine T.seq ?_
 refine T.region ?_
 refine TL.mv (.one (.ptr 800 0)) ?_
 refine TL.c (Step.fieldAddr (q := 0) (off := 2) (n := 1) (one := true) rfl rfl (lt_ok rfl) (by kernel_rfl) (Nat.succ_ne_zero _) rfl) ?_
 refine TL.c (Step.load_box (c := cI h.f2) rfl rfl (lt_ok rfl) (by kernel_rfl) rfl rfl rfl) ?_
 have nn3 := putVar_len (putVar (putVar b h.f0) h.f1) h.f2
 refine TL.c (Step.callX2 (b := 800) (xs := [.tmp 12, .tmp 14]) (ps := [(.one (.ptr 800 0)), (pI h.f2)]) (bps := [.row 180000 []]) (ss := [180000]) (g := .func 77) (ok_impl_writer__num (putVar (putVar b h.f0) h.f1) h.f2 (by first | omega | assumption | (simp only [List.length_append] at *; omega))) rfl rfl (lt_ok rfl) rfl (by kernel_rfl) rfl (.cons (.bx) (.cons (.rd (.one (.d _))) .nil)) rfl (.own rfl (by simp) .nil) rfl rfl (fun x hx => by have := hp x hx; omega) rfl) ?_
 refine TL.ren 1015 180000 rfl (fun x hx => by have := hp x hx; omega) ?_
 refine TL.nil ?_
 refine T.seq ?_
 refine T.region ?_
 refine TL.mv (.one (.ptr 800 0)) ?_
 refine TL.c (Step.fieldAddr (q := 0) (off := 3) (n := 1) (one := true) rfl rfl (lt_ok rfl) (by kernel_rfl) (Nat.succ_ne_zero _) rfl) ?_
 refine TL.c (Step.load_box (c := cS h.f3) rfl rfl (lt_ok rfl) (by kernel_rfl) rfl rfl rfl) ?_
 refine TL.c (Step.callX2 (b := 800) (xs := [.tmp 16, .tmp 18]) (ps := [(.one (.ptr 800 0)), (pS h.f3)]) (bps := [.row 180000 []]) (ss := [180000]) (g := .func 130) (ok_impl_writer__raw (putVar (putVar (putVar b h.f0) h.f1) h.f2) h.f3 (by first | omega | assumption | (simp only [List.length_append] at *; omega)) (by first | omega | assumption | (simp only [List.length_append] at *; omega))) rfl rfl (lt_ok rfl) rfl (by kernel_rfl) rfl (.cons (.bx) (.cons (.rd (.one (.d _))) .nil)) rfl (.own rfl (by simp) .nil) rfl rfl (fun x hx => by have := hp x hx; omega) rfl) ?_
 refine TL.ren 1019 180000 rfl (fun x hx => by have := hp x hx; omega) ?_
 refine TL.nil ?_
 refine T.seq ?_
 refine T.region ?_
 refine TL.mv (.one (.ptr 800 0)) ?_
 refine TL.c (Step.fieldAddr (q := 0) (off := 4) (n := 1) (one := true) rfl rfl (lt_ok rfl) (by kernel_rfl) (Nat.succ_ne_zero _) rfl) ?_
 refine TL.c (Step.load_box (c := cS h.f4) rfl rfl (lt_ok rfl) (by kernel_rfl) rfl rfl rfl) ?_
 refine TL.c (Step.callX2 (b := 800) (xs := [.tmp 20, .tmp 22]) (ps := [(.one (.ptr 800 0)), (pS h.f4)]) (bps := [.row 180000 []]) (ss := [180000]) (g := .func 130) (ok_impl_writer__raw ((putVar (putVar (putVar b h.f0) h.f1) h.f2) ++ h.f3) h.f4 (by first | omega | assumption | (simp only [List.length_append] at *; omega)) (by first | omega | assumption | (simp only [List.length_append] at *; omega))) rfl rfl (lt_ok rfl) rfl (by kernel_rfl) rfl (.cons (.bx) (.cons (.rd (.one (.d _))) .nil)) rfl (.own rfl (by simp) .nil) rfl rfl (fun x hx => by have := hp x hx; omega) rfl) ?_
 refine TL.ren 1023 180000 rfl (fun x hx => by have := hp x hx; omega) ?_
 refine TL.nil ?_
 refine T.region ?_
 refine TL.mv (.one (.ptr 800 0)) ?_
 refine TL.c (Step.fieldAddr (q := 0) (off := 5) (n := 5) (one := false) rfl rfl (lt_ok rfl) (by kernel_rfl) (Nat.succ_ne_zero _) rfl) ?_
 refine TL.c (Step.load_box_agg (n := 5) (qs := [cI h.f5.f0, cI h.f5.f1, cS h.f5.f2, cS h.f5.f3, .d (.bss h.f5.f4)]) rfl rfl (lt_ok rfl) (by kernel_rfl) rfl rfl rfl rfl) ?_
 have nn4 := @putQcB_len (((putVar (putVar (putVar b h.f0) h.f1) h.f2) ++ h.f3) ++ h.f4) h.f5 (by assumption)
 refine TL.c (Step.callX2 (b := 800) (xs := [.tmp 24, .tmp 26]) (ps := [(.one (.ptr 800 0)), (.agg [cI h.f5.f0, cI h.f5.f1, cS h.f5.f2, cS h.f5.f3, .d (.bss h.f5.f4)])]) (bps := [.row 180000 []]) (ss := [180000]) (g := .func 79) (ok_impl_writer__qc (((putVar (putVar (putVar b h.f0) h.f1) h.f2) ++ h.f3) ++ h.f4) h.f5 (by first | omega | assumption | (simp only [List.length_append] at *; omega)) (by assumption)) rfl rfl (lt_ok rfl) rfl (by kernel_rfl) rfl (.cons (.bx) (.cons (.rd (.agg (.cons (.d _) (.cons (.d _) (.cons (.d _) (.cons (.d _) (.cons (.d _) .nil))))))) .nil)) rfl (.own rfl (by simp) .nil) rfl rfl (fun x hx => by have := hp x hx; omega) rfl) ?_
 refine TL.ren 1027 180000 rfl (fun x hx => by have := hp x hx; omega) ?_
 refine TL.nil ?_
 refine ⟨[.row 180000 []], [], rfl, rfl, .nil, rfl, [180000], (RetC.own' rfl ?_ rfl .nil)⟩ <;> (rfl)
theorem ok_impl_LimitsOk (l : SLimits) : RO Try.prog 135 [.agg l.cells] [(false, [.rd (.bool (limOk l))])] := by
 refine RO.intro Try.func135 rfl 26 rfl (le_ok rfl) fun w Z => ?_
 refine T.seq ?_
 refine T.region ?_
 refine TL.c (Step.box (p := (.agg [cI l.f0, cI l.f1, cI l.f2, cI l.f3, cI l.f4])) (ps := [cI l.f0, cI l.f1, cI l.f2, cI l.f3, cI l.f4]) rfl rfl (lt_ok rfl) rfl rfl rfl rfl rfl) ?_
 refine TL.as (pB false) ?_
 refine TL.nil ?_
 refine T.seq ?_
 refine T.region ?_
 refine TL.c (Step.fieldAddr (q := 0) (off := 0) (n := 1) (one := true) rfl rfl (lt_ok rfl) (by kernel_rfl) (Nat.succ_ne_zero _) rfl) ?_
 refine TL.c (Step.load_box (c := cI l.f0) rfl rfl (lt_ok rfl) (by kernel_rfl) rfl rfl rfl) ?_
 refine TL.c (Step.cl (xs := [.tmp 4, .const (.int .i64 1), .const (.int .i64 10)]) (ps := [(pI l.f0), (pI 1), (pI 10)]) (g := .func 117) false (.cons (.one (.d _)) (.cons (.one (.d _)) (.cons (.one (.d _)) .nil))) (ok_impl_within l.f0 1 10)) ?_
 refine TL.mv (pB (decide (1 ≤ l.f0 ∧ l.f0 ≤ 10))) ?_
 rcases Bool.eq_false_or_eq_true (decide (1 ≤ l.f0 ∧ l.f0 ≤ 10)) with hb1 | hb1
 ·
  refine TL.known 6 hb1 rfl ?_
  refine TL.gy 6 (Step.fieldAddr (q := 0) (off := 1) (n := 1) (one := true) rfl rfl (lt_ok rfl) (by kernel_rfl) (Nat.succ_ne_zero _) rfl) ?_
  refine TL.gy 6 (Step.load_box (c := cI l.f1) rfl rfl (lt_ok rfl) (by kernel_rfl) rfl rfl rfl) ?_
  refine TL.gy 6 (Step.cl (xs := [.tmp 8, .const (.int .i64 0), .const (.int .i64 40)]) (ps := [(pI l.f1), (pI 0), (pI 40)]) (g := .func 117) false (.cons (.one (.d _)) (.cons (.one (.d _)) (.cons (.one (.d _)) .nil))) (ok_impl_within l.f1 0 40)) ?_
  refine TL.pk true (pB (decide (0 ≤ l.f1 ∧ l.f1 ≤ 40))) ?_
  refine TL.mv (pB (decide (0 ≤ l.f1 ∧ l.f1 ≤ 40))) ?_
  rcases Bool.eq_false_or_eq_true (decide (0 ≤ l.f1 ∧ l.f1 ≤ 40)) with hb2 | hb2
  ·
   refine TL.known 11 hb2 rfl ?_
   refine TL.gy 11 (Step.fieldAddr (q := 0) (off := 2) (n := 1) (one := true) rfl rfl (lt_ok rfl) (by kernel_rfl) (Nat.succ_ne_zero _) rfl) ?_
   refine TL.gy 11 (Step.load_box (c := cI l.f2) rfl rfl (lt_ok rfl) (by kernel_rfl) rfl rfl rfl) ?_
   refine TL.gy 11 (Step.cl (xs := [.tmp 13, .const (.int .i64 0), .const (.int .i64 8)]) (ps := [(pI l.f2), (pI 0), (pI 8)]) (g := .func 117) false (.cons (.one (.d _)) (.cons (.one (.d _)) (.cons (.one (.d _)) .nil))) (ok_impl_within l.f2 0 8)) ?_
   refine TL.pk true (pB (decide (0 ≤ l.f2 ∧ l.f2 ≤ 8))) ?_
   refine TL.mv (pB (decide (0 ≤ l.f2 ∧ l.f2 ≤ 8))) ?_
   rcases Bool.eq_false_or_eq_true (decide (0 ≤ l.f2 ∧ l.f2 ≤ 8)) with hb3 | hb3
   ·
    refine TL.known 16 hb3 rfl ?_
    refine TL.gy 16 (Step.fieldAddr (q := 0) (off := 3) (n := 1) (one := true) rfl rfl (lt_ok rfl) (by kernel_rfl) (Nat.succ_ne_zero _) rfl) ?_
    refine TL.gy 16 (Step.load_box (c := cI l.f3) rfl rfl (lt_ok rfl) (by kernel_rfl) rfl rfl rfl) ?_
    refine TL.gy 16 (Step.cl (xs := [.tmp 18, .const (.int .i64 1), .const (.int .i64 4000)]) (ps := [(pI l.f3), (pI 1), (pI 4000)]) (g := .func 117) false (.cons (.one (.d _)) (.cons (.one (.d _)) (.cons (.one (.d _)) .nil))) (ok_impl_within l.f3 1 4000)) ?_
    refine TL.pk true (pB (decide (1 ≤ l.f3 ∧ l.f3 ≤ 4000))) ?_
    refine TL.mv (pB (decide (1 ≤ l.f3 ∧ l.f3 ≤ 4000))) ?_
    rcases Bool.eq_false_or_eq_true (decide (1 ≤ l.f3 ∧ l.f3 ≤ 4000)) with hb4 | hb4
    ·
     refine TL.known 21 hb4 rfl ?_
     refine TL.gy 21 (Step.fieldAddr (q := 0) (off := 4) (n := 1) (one := true) rfl rfl (lt_ok rfl) (by kernel_rfl) (Nat.succ_ne_zero _) rfl) ?_
     refine TL.gy 21 (Step.load_box (c := cI l.f4) rfl rfl (lt_ok rfl) (by kernel_rfl) rfl rfl rfl) ?_
     refine TL.gy 21 (Step.cl (xs := [.tmp 23, .const (.int .i64 3), .const (.int .i64 5)]) (ps := [(pI l.f4), (pI 3), (pI 5)]) (g := .func 117) false (.cons (.one (.d _)) (.cons (.one (.d _)) (.cons (.one (.d _)) .nil))) (ok_impl_within l.f4 3 5)) ?_
     refine TL.pk true (pB (decide (3 ≤ l.f4 ∧ l.f4 ≤ 5))) ?_
     refine TL.as (pB (decide (3 ≤ l.f4 ∧ l.f4 ≤ 5))) ?_
     refine TL.nil ?_
     refine T.ret ?_
     refine ⟨[(false, [.d (.bool (decide (3 ≤ l.f4 ∧ l.f4 ≤ 5)))])], (.cons rfl .nil), rfl, [], (RetC.rd' ?_ .nil)⟩ <;> (first | rfl | (congr 1; symm; simp only [limOk, *, Bool.and_true, Bool.true_and, Bool.and_false, Bool.false_and, decide_true, decide_false, and_true, true_and, and_self, and_false, false_and, Bool.and_self, not_true, not_false, Bool.not_true, Bool.not_false, ge_iff_le, gt_iff_lt, if_true, if_false, Bool.false_eq_true, ite_true, ite_false, reduceIte]; done) | (congr 1; symm; simp_all [limOk]; done) | (congr 1; symm; simp_all [limOk]; omega))
    ·
     refine TL.known 21 hb4 rfl ?_
     refine TL.gf 21 ?_
     refine TL.gf 21 ?_
     refine TL.gf 21 ?_
     refine TL.pk false (pB false) ?_
     refine TL.as (pB false) ?_
     refine TL.nil ?_
     refine T.ret ?_
     refine ⟨[(false, [.d (.bool false)])], (.cons rfl .nil), rfl, [], (RetC.rd' ?_ .nil)⟩ <;> (first | rfl | (congr 1; symm; simp only [limOk, *, Bool.and_true, Bool.true_and, Bool.and_false, Bool.false_and, decide_true, decide_false, and_true, true_and, and_self, and_false, false_and, Bool.and_self, not_true, not_false, Bool.not_true, Bool.not_false, ge_iff_le, gt_iff_lt, if_true, if_false, Bool.false_eq_true, ite_true, ite_false, reduceIte]; done) | (congr 1; symm; simp_all [limOk]; done) | (congr 1; symm; simp_all [limOk]; omega))
   ·
    refine TL.known 16 hb3 rfl ?_
    refine TL.gf 16 ?_
    refine TL.gf 16 ?_
    refine TL.gf 16 ?_
    refine TL.pk false (pB false) ?_
    refine TL.mv (pB false) ?_
    refine TL.gf 21 ?_
    refine TL.gf 21 ?_
    refine TL.gf 21 ?_
    refine TL.pk false (pB false) ?_
    refine TL.as (pB false) ?_
    refine TL.nil ?_
    refine T.ret ?_
    refine ⟨[(false, [.d (.bool false)])], (.cons rfl .nil), rfl, [], (RetC.rd' ?_ .nil)⟩ <;> (first | rfl | (congr 1; symm; simp only [limOk, *, Bool.and_true, Bool.true_and, Bool.and_false, Bool.false_and, decide_true, decide_false, and_true, true_and, and_self, and_false, false_and, Bool.and_self, not_true, not_false, Bool.not_true, Bool.not_false, ge_iff_le, gt_iff_lt, if_true, if_false, Bool.false_eq_true, ite_true, ite_false, reduceIte]; done) | (congr 1; symm; simp_all [limOk]; done) | (congr 1; symm; simp_all [limOk]; omega))
  ·
   refine TL.known 11 hb2 rfl ?_
   refine TL.gf 11 ?_
   refine TL.gf 11 ?_
   refine TL.gf 11 ?_
   refine TL.pk false (pB false) ?_
   refine TL.mv (pB false) ?_
   refine TL.gf 16 ?_
   refine TL.gf 16 ?_
   refine TL.gf 16 ?_
   refine TL.pk false (pB false) ?_
   refine TL.mv (pB false) ?_
   refine TL.gf 21 ?_
   refine TL.gf 21 ?_
   refine TL.gf 21 ?_
   refine TL.pk false (pB false) ?_
   refine TL.as (pB false) ?_
   refine TL.nil ?_
   refine T.ret ?_
   refine ⟨[(false, [.d (.bool false)])], (.cons rfl .nil), rfl, [], (RetC.rd' ?_ .nil)⟩ <;> (first | rfl | (congr 1; symm; simp only [limOk, *, Bool.and_true, Bool.true_and, Bool.and_false, Bool.false_and, decide_true, decide_false, and_true, true_and, and_self, and_false, false_and, Bool.and_self, not_true, not_false, Bool.not_true, Bool.not_false, ge_iff_le, gt_iff_lt, if_true, if_false, Bool.false_eq_true, ite_true, ite_false, reduceIte]; done) | (congr 1; symm; simp_all [limOk]; done) | (congr 1; symm; simp_all [limOk]; omega))
 ·
  refine TL.known 6 hb1 rfl ?_
  refine TL.gf 6 ?_
  refine TL.gf 6 ?_
  refine TL.gf 6 ?_
  refine TL.pk false (pB false) ?_
  refine TL.mv (pB false) ?_
  refine TL.gf 11 ?_
  refine TL.gf 11 ?_
  refine TL.gf 11 ?_
  refine TL.pk false (pB false) ?_
  refine TL.mv (pB false) ?_
  refine TL.gf 16 ?_
  refine TL.gf 16 ?_
  refine TL.gf 16 ?_
  refine TL.pk false (pB false) ?_
  refine TL.mv (pB false) ?_
  refine TL.gf 21 ?_
  refine TL.gf 21 ?_
  refine TL.gf 21 ?_
  refine TL.pk false (pB false) ?_
  refine TL.as (pB false) ?_
  refine TL.nil ?_
  refine T.ret ?_
  refine ⟨[(false, [.d (.bool false)])], (.cons rfl .nil), rfl, [], (RetC.rd' ?_ .nil)⟩ <;> (first | rfl | (congr 1; symm; simp only [limOk, *, Bool.and_true, Bool.true_and, Bool.and_false, Bool.false_and, decide_true, decide_false, and_true, true_and, and_self, and_false, false_and, Bool.and_self, not_true, not_false, Bool.not_true, Bool.not_false, ge_iff_le, gt_iff_lt, if_true, if_false, Bool.false_eq_true, ite_true, ite_false, reduceIte]; done) | (congr 1; symm; simp_all [limOk]; done) | (congr 1; symm; simp_all [limOk]; omega))
theorem ok_math_bits_OnesCount8 (x : Int) (h0_ : 0 ≤ x ∧ x ≤ 255) : RO Try.prog 183 [.one (.int .u8 x)] [(false, [.rd (.int .i64 (ones x))])] := by
 refine RO.intro Try.func183 rfl 6 rfl (le_ok rfl) fun w Z => ?_
 have ho_ := ones_bd x
 refine T.seq ?_
 refine T.region ?_
 refine TL.as (pI 0) ?_
 refine TL.nil ?_
 refine T.seq ?_
 refine T.region ?_
 refine TL.mv (.one (.d (.int .u8 x))) ?_
 refine TL.c (Step.index_str (c := (ones x)) rfl rfl (lt_ok rfl) (by kernel_rfl) rfl rfl (by first | omega | (simp; omega)) (by obtain ⟨n, hn⟩ : ∃ n : Fin 256, x = ((n.val : Nat) : Int) := ⟨⟨x.toNat, by omega⟩, by simp only; omega⟩; subst hn; clear h0_ ho_; revert n; decide +kernel)) ?_
 refine TL.c (Step.conv (c := (ones x)) rfl rfl (lt_ok rfl) (by kernel_rfl) (by kernel_rfl) rfl (wrap_ok (by first | omega | (simp; omega)) (by first | omega | (simp; omega)))) ?_
 refine TL.as (pI (ones x)) ?_
 refine TL.nil ?_
 refine T.ret ?_
 exact ⟨[(false, [.d (.int .i64 (ones x))])], (.cons rfl .nil), rfl, [], (RetC.rd' rfl .nil)⟩
theorem ok_impl_BitsCount (b : List Int) (h0_ : U8s b) (h1_ : b.length ≤ 1099511627776) : RO Try.prog 139 [.one (.ints .u8 b)] [(false, [.rd (.int .i64 ((bitList b).length : Int))])] := by
 refine RO.intro Try.func139 rfl 18 rfl (le_ok rfl) fun w Z => ?_
 refine T.bnd 0 0 rfl rfl fun hb_0_0 => ?_
 simp only [D.size, List.length_map] at hb_0_0
 refine T.seq ?_
 refine T.region ?_
 refine TL.as (pI 0) ?_
 refine TL.nil ?_
 refine T.seq ?_
 refine T.region ?_
 refine TL.as (pI 0) ?_
 refine TL.nil ?_
 refine T.seq ?_
 refine T.seq ?_
 refine T.region ?_
 refine TL.mv (pS b) ?_
 refine TL.c (Step.len (e := 5) (z := 1) (d := (.ints .u8 b)) rfl rfl (lt_ok rfl) (by kernel_rfl) rfl rfl) ?_
 refine TL.mv (pI 0) ?_
 refine TL.nil ?_
 refine T.block ?_
 refine T.loop (ι := Nat × Int) (fun xx_ => { tm := [(2, (pI 0)), (6, (pS b)), (7, (pI (b.length : Int))), (8, (pI ((xx_.1) : Int))), (3, (pI (xx_.2)))], rows := [], boxes := [] }) (fun xx_ => (xx_.1) ≤ b.length ∧ 0 ≤ (xx_.2) ∧ (xx_.2) ≤ 8 * (xx_.1) ∧ (xx_.2) + onesSum (b.drop (xx_.1)) = ((bitList b).length : Int)) (fun xx_ => b.length - (xx_.1)) (0, 0) ?_ ?_ ?_
 · refine Env.le_mk ⟨rfl, rfl, rfl, ?_, ?_, trivial⟩ trivial trivial <;> (first | rfl | (refine congrArg (fun n => PV.one (.d (.int .i64 n))) ?_; first | omega | (simp; done)))
 · (dsimp only; refine ⟨Nat.zero_le _, by omega, by omega, by rw [List.drop_zero, onesSum_all]; omega⟩)
 ·
  intro xx_ hx
  obtain ⟨i, c⟩ := xx_
  try dsimp only at hx ⊢
  obtain ⟨hx1, hx2, hx3, hx4⟩ := hx
  have hob_ := ones_bd (b.getD i 0)
  refine T.seq ?_
  refine T.region ?_
  refine TL.c (Step.bin rfl rfl (lt_ok rfl) rfl rfl (Bin.lss (k := .i64) (a := (i : Int)) (b := (b.length : Int)))) ?_
  refine TL.nil ?_
  refine T.seq ?_
  refine T.cond (b := decide ((i : Int) < (b.length : Int))) rfl (fun h1 => ?_) (fun h1 => ?_)
  ·
   replace h1 := of_decide_eq_true h1
   refine T.skip ?_
   refine T.seq ?_
   refine T.block ?_
   refine T.seq ?_
   refine T.region ?_
   refine TL.c (Step.index (e := 5) (z := 1) (i := (i : Int)) rfl rfl (lt_ok rfl) (by kernel_rfl) rfl rfl rfl (lt_ok rfl) rfl (by first | omega | (simp; omega)) (by simp only [D.size]; first | omega | (simp; omega))) ?_
   refine TL.c (Step.load (e := (.int .u8 (b.getD i 0))) rfl rfl (lt_ok rfl) (by kernel_rfl) rfl rfl) ?_
   refine TL.as (.one (.d (.int .u8 (b.getD i 0)))) ?_
   refine TL.nil ?_
   refine T.region ?_
   refine TL.mv (pI c) ?_
   refine TL.mv (.one (.d (.int .u8 (b.getD i 0)))) ?_
   have nn2 := ones_bd (b.getD i 0)
   refine TL.c (Step.cl (xs := [.tmp 13]) (ps := [(.one (.d (.int .u8 (b.getD i 0))))]) (g := .func 183) false (.cons (.one (.d _)) .nil) (ok_math_bits_OnesCount8 (b.getD i 0) (by first | assumption | exact getD_u8 (by assumption) _ | omega))) ?_
   refine TL.c (Step.bin (r := .int .i64 (c + (ones (b.getD i 0)))) rfl rfl (lt_ok rfl) rfl rfl (Bin.add (a := c) (b := (ones (b.getD i 0))) (by first | exact wrap_ok (by first | omega | (simp; omega)) (by first | omega | (simp; omega)) | rfl))) ?_
   refine TL.as (pI (c + (ones (b.getD i 0)))) ?_
   refine TL.nil ?_
   refine T.region ?_
   refine TL.c (Step.bin (r := .int .i64 ((i : Int) + 1)) rfl rfl (lt_ok rfl) rfl rfl (Bin.add (a := (i : Int)) (b := 1) (by first | exact wrap_ok (by first | omega | (simp; omega)) (by first | omega | (simp; omega)) | rfl))) ?_
   refine TL.mv (pI ((i : Int) + 1)) ?_
   refine TL.nil ?_
   refine ⟨(i + 1, c + (ones (b.getD i 0))), by (try dsimp only); (refine ⟨by omega, by omega, by omega, ?_⟩; rw [← hx4, onesSum_drop b (i := i) (by omega)]; omega), by (dsimp only; omega), Env.le_mk ⟨rfl, rfl, rfl, ?_, ?_, trivial⟩ trivial trivial⟩ <;> (first | rfl | (refine congrArg (fun n => PV.one (.d (.int .i64 n))) ?_; first | omega | (simp; done)))
  ·
   replace h1 := of_decide_eq_false h1
   refine T.exit ?_
   refine T.seq ?_
   refine T.region ?_
   refine TL.mv (pI c) ?_
   refine TL.as (pI c) ?_
   refine TL.nil ?_
   refine T.ret ?_
   refine ⟨[(false, [cI c])], (.cons rfl .nil), rfl, [], (RetC.rd' ?_ .nil)⟩ <;> ((congr 1; rw [← hx4, List.drop_of_length_le (by omega)]; simp [onesSum]))
theorem ok_impl_areHashes (l : List (List Int)) : RO Try.prog 156 [.one (.bss l)] [(false, [.rd (.bool (hashes l))])] := by
 refine RO.intro Try.func156 rfl 15 rfl (le_ok rfl) fun w Z => ?_
 refine T.bnd 0 0 rfl rfl fun hb_0_0 => ?_
 simp only [D.size, List.length_map] at hb_0_0
 refine T.seq ?_
 refine T.region ?_
 refine TL.as (pB false) ?_
 refine TL.nil ?_
 refine T.seq ?_
 refine T.seq ?_
 refine T.region ?_
 refine TL.mv (.one (.d (.bss l))) ?_
 refine TL.c (Step.len (e := 24) (z := 1) (d := (.bss l)) rfl rfl (lt_ok rfl) (by kernel_rfl) rfl rfl) ?_
 refine TL.mv (pI 0) ?_
 refine TL.nil ?_
 refine T.block ?_
 refine T.loop (ι := Nat) (fun xx_ => { tm := [(5, (.one (.d (.bss l)))), (6, (pI (l.length : Int))), (7, (pI (xx_ : Int)))], rows := [], boxes := [] }) (fun xx_ => xx_ ≤ l.length ∧ hashes (l.take xx_) = true) (fun xx_ => l.length - xx_) 0 ?_ ?_ ?_
 · refine Env.le_mk ⟨rfl, rfl, ?_, trivial⟩ trivial trivial <;> (first | rfl | (simp; done) | (congr 3; omega))
 · (refine ⟨Nat.zero_le _, by rw [List.take_zero]; rfl⟩)
 ·
  intro i hx
  try dsimp only at hx ⊢
  obtain ⟨hx1, hx2⟩ := hx
  refine T.seq ?_
  refine T.region ?_
  refine TL.c (Step.bin rfl rfl (lt_ok rfl) rfl rfl (Bin.lss (k := .i64) (a := (i : Int)) (b := (l.length : Int)))) ?_
  refine TL.nil ?_
  refine T.seq ?_
  refine T.cond (b := decide ((i : Int) < (l.length : Int))) rfl (fun h1 => ?_) (fun h1 => ?_)
  ·
   replace h1 := of_decide_eq_true h1
   refine T.skip ?_
   refine T.seq ?_
   refine T.block ?_
   refine T.seq ?_
   refine T.region ?_
   refine TL.c (Step.index (e := 24) (z := 1) (i := (i : Int)) rfl rfl (lt_ok rfl) (by kernel_rfl) rfl rfl rfl (lt_ok rfl) rfl (by first | omega | (simp; omega)) (by simp only [D.size]; first | omega | (simp; omega))) ?_
   refine TL.c (Step.load (e := (.ints .u8 (l.getD i []))) rfl rfl (lt_ok rfl) (by kernel_rfl) rfl rfl) ?_
   refine TL.as (pS (l.getD i [])) ?_
   refine TL.nil ?_
   refine T.seq ?_
   refine T.region ?_
   refine TL.mv (pS (l.getD i [])) ?_
   refine TL.c (Step.len (e := 5) (z := 1) (d := (.ints .u8 (l.getD i []))) rfl rfl (lt_ok rfl) (by kernel_rfl) rfl rfl) ?_
   refine TL.c (Step.bin rfl rfl (lt_ok rfl) rfl rfl (Bin.neq (k := .i64) (a := ((l.getD i []).length : Int)) (b := 32))) ?_
   refine TL.nil ?_
   refine T.cond (b := decide (((l.getD i []).length : Int) ≠ 32)) rfl (fun h2 => ?_) (fun h2 => ?_)
   ·
    replace h2 := of_decide_eq_true h2
    refine T.seq ?_
    refine T.region ?_
    refine TL.as (pB false) ?_
    refine TL.nil ?_
    refine T.ret ?_
    refine ⟨[(false, [.d (.bool false)])], (.cons rfl .nil), rfl, [], (RetC.rd' ?_ .nil)⟩ <;> ((congr 1; symm; first | (exact hashes_no (i := i) (by omega) (by omega)) | (rw [List.take_of_length_le (by omega)] at hx2; exact hx2)))
   ·
    replace h2 := of_decide_eq_false h2
    refine T.skip ?_
    refine T.region ?_
    refine TL.c (Step.bin (r := .int .i64 ((i : Int) + 1)) rfl rfl (lt_ok rfl) rfl rfl (Bin.add (a := (i : Int)) (b := 1) (by first | exact wrap_ok (by first | omega | (simp; omega)) (by first | omega | (simp; omega)) | rfl))) ?_
    refine TL.mv (pI ((i : Int) + 1)) ?_
    refine TL.nil ?_
    refine ⟨i + 1, by (refine ⟨by omega, hashes_step (by omega) hx2 (by omega)⟩), by first | omega | (dsimp only; omega), Env.le_mk ⟨rfl, rfl, ?_, trivial⟩ trivial trivial⟩ <;> (first | rfl | (simp; done) | (congr 3; omega))
  ·
   replace h1 := of_decide_eq_false h1
   refine T.exit ?_
   refine T.seq ?_
   refine T.region ?_
   refine TL.as (pB true) ?_
   refine TL.nil ?_
   refine T.ret ?_
   refine ⟨[(false, [.d (.bool true)])], (.cons rfl .nil), rfl, [], (RetC.rd' ?_ .nil)⟩ <;> ((congr 1; symm; first | (exact hashes_no (i := i) (by omega) (by omega)) | (rw [List.take_of_length_le (by omega)] at hx2; exact hx2)))
theorem ok_impl_BitsSize (n : Int) (h0_ : n ≤ 9223372036854775807) : RO Try.prog 182 [.one (.int .i64 n)] [(false, [.rd (.int .i64 (bitsSize n))])] := by
 refine RO.intro Try.func182 rfl 9 rfl (le_ok rfl) fun w Z => ?_
 refine T.seq ?_
 refine T.region ?_
 refine TL.as (pI 0) ?_
 refine TL.nil ?_
 refine T.seq ?_
 refine T.seq ?_
 refine T.region ?_
 refine TL.mv (pI n) ?_
 refine TL.c (Step.bin rfl rfl (lt_ok rfl) rfl rfl (Bin.lss (k := .i64) (a := n) (b := 1))) ?_
 refine TL.nil ?_
 refine T.cond (b := decide (n < 1)) rfl (fun h1 => ?_) (fun h1 => ?_)
 ·
  replace h1 := of_decide_eq_true h1
  refine T.seq ?_
  refine T.region ?_
  refine TL.as (pI 0) ?_
  refine TL.nil ?_
  refine T.ret ?_
  refine ⟨[(false, [cI 0])], (.cons rfl .nil), rfl, [], (RetC.rd' ?_ .nil)⟩ <;> ((congr 1; unfold bitsSize; first | rw [if_pos (by omega)] | (rw [if_neg (by omega)]; done) | (rw [if_neg (by omega)]; omega)))
 ·
  replace h1 := of_decide_eq_false h1
  refine T.skip ?_
  refine T.seq ?_
  refine T.region ?_
  refine TL.mv (pI n) ?_
  refine TL.c (Step.bin (r := .int .i64 (n - 1)) rfl rfl (lt_ok rfl) rfl rfl (Bin.sub (a := n) (b := 1) (by first | exact wrap_ok (by first | omega | (simp; omega)) (by first | omega | (simp; omega)) | rfl))) ?_
  refine TL.c (Step.bin (r := .int .i64 ((n - 1) / 8)) rfl rfl (lt_ok rfl) rfl rfl (Bin.quo (k := .i64) (a := (n - 1)) (b := 8) (by decide) (by rw [Int.tdiv_eq_ediv_of_nonneg (by first | omega | (simp; omega))]; exact wrap_ok (by first | omega | (simp; omega)) (by first | omega | (simp; omega))))) ?_
  refine TL.c (Step.bin (r := .int .i64 (((n - 1) / 8) + 1)) rfl rfl (lt_ok rfl) rfl rfl (Bin.add (a := ((n - 1) / 8)) (b := 1) (by first | exact wrap_ok (by first | omega | (simp; omega)) (by first | omega | (simp; omega)) | rfl))) ?_
  refine TL.as (pI (((n - 1) / 8) + 1)) ?_
  refine TL.nil ?_
  refine T.ret ?_
  refine ⟨[(false, [cI (((n - 1) / 8) + 1)])], (.cons rfl .nil), rfl, [], (RetC.rd' ?_ .nil)⟩ <;> ((congr 1; unfold bitsSize; first | rw [if_pos (by omega)] | (rw [if_neg (by omega)]; done) | (rw [if_neg (by omega)]; omega)))
theorem ok_impl_BitsHas (b : List Int) (i : Int) (h0_ : U8s b) (h1_ : b.length ≤ 17592186044416) (h2_ : i ≤ 9223372036854775807) : RO Try.prog 197 [.one (.ints .u8 b), .one (.int .i64 i)] [(false, [.rd (.bool (bitHas b i))])] := by
 refine RO.intro Try.func197 rfl 23 rfl (le_ok rfl) fun w Z => ?_
 refine T.bnd 0 0 rfl rfl fun hb_0_0 => ?_
 simp only [D.size, List.length_map] at hb_0_0
 have hu_ := getD_u8 h0_ (i / 8).toNat
 have hp_ := div_pow_bd hu_.1 hu_.2 (i % 8).toNat
 refine T.seq ?_
 refine T.region ?_
 refine TL.as (pB false) ?_
 refine TL.nil ?_
 refine T.seq ?_
 refine T.region ?_
 refine TL.mv (pI i) ?_
 refine TL.mv (pS b) ?_
 refine TL.c (Step.len (e := 5) (z := 1) (d := (.ints .u8 b)) rfl rfl (lt_ok rfl) (by kernel_rfl) rfl rfl) ?_
 refine TL.c (Step.bin (r := .int .i64 (8 * (b.length : Int))) rfl rfl (lt_ok rfl) rfl rfl (Bin.mul (a := 8) (b := (b.length : Int)) (by first | exact wrap_ok (by first | omega | exact hp_.1 | exact hp_.2 | (simp; omega)) (by first | omega | exact hp_.1 | exact hp_.2 | (simp; omega)) | rfl))) ?_
 refine TL.c (Step.bin (r := .int .i64 ((8 * (b.length : Int)) - 1)) rfl rfl (lt_ok rfl) rfl rfl (Bin.sub (a := (8 * (b.length : Int))) (b := 1) (by first | exact wrap_ok (by first | omega | exact hp_.1 | exact hp_.2 | (simp; omega)) (by first | omega | exact hp_.1 | exact hp_.2 | (simp; omega)) | rfl))) ?_
 refine TL.c (Step.cl (xs := [.tmp 5, .const (.int .i64 0), .tmp 9]) (ps := [(pI i), (pI 0), (pI ((8 * (b.length : Int)) - 1))]) (g := .func 117) false (.cons (.one (.d _)) (.cons (.one (.d _)) (.cons (.one (.d _)) .nil))) (ok_impl_within i 0 ((8 * (b.length : Int)) - 1))) ?_
 refine TL.mv (pB (decide (0 ≤ i ∧ i ≤ ((8 * (b.length : Int)) - 1)))) ?_
 rcases Bool.eq_false_or_eq_true (decide (0 ≤ i ∧ i ≤ ((8 * (b.length : Int)) - 1))) with hb1 | hb1
 ·
  refine TL.known 11 hb1 rfl ?_
  have hb1' := hb1
  replace hb1' := of_decide_eq_true hb1'
  refine TL.gm 11 (pS b) ?_
  refine TL.gm 11 (pI i) ?_
  refine TL.gy 11 (Step.bin (r := .int .i64 (i / 8)) rfl rfl (lt_ok rfl) rfl rfl (Bin.quo (k := .i64) (a := i) (b := 8) (by decide) (by rw [Int.tdiv_eq_ediv_of_nonneg (by first | omega | exact hp_.1 | exact hp_.2 | (simp; omega))]; exact wrap_ok (by first | omega | exact hp_.1 | exact hp_.2 | (simp; omega)) (by first | omega | exact hp_.1 | exact hp_.2 | (simp; omega))))) ?_
  refine TL.gy 11 (Step.index (e := 5) (z := 1) (i := (i / 8)) rfl rfl (lt_ok rfl) (by kernel_rfl) rfl rfl rfl (lt_ok rfl) rfl (by first | omega | exact hp_.1 | exact hp_.2 | (simp; omega)) (by simp only [D.size]; first | omega | exact hp_.1 | exact hp_.2 | (simp; omega))) ?_
  refine TL.gy 11 (Step.load (e := (.int .u8 (b.getD (i / 8).toNat 0))) rfl rfl (lt_ok rfl) (by kernel_rfl) rfl rfl) ?_
  refine TL.gm 11 (pI i) ?_
  refine TL.gy 11 (Step.bin (r := .int .i64 (i % 8)) rfl rfl (lt_ok rfl) rfl rfl (Bin.rem (k := .i64) (a := i) (b := 8) (by decide) (Int.tmod_eq_emod_of_nonneg (by first | omega | exact hp_.1 | exact hp_.2 | (simp; omega))))) ?_
  refine TL.gy 11 (Step.bin (r := .int .u8 ((b.getD (i / 8).toNat 0) / 2 ^ ((i % 8)).toNat)) rfl rfl (lt_ok rfl) rfl rfl (Bin.shr (k := .u8) (k' := .i64) (a := (b.getD (i / 8).toNat 0)) (b := (i % 8)) (by first | omega | exact hp_.1 | exact hp_.2 | (simp; omega)) (shr_ok (by first | omega | exact hp_.1 | exact hp_.2 | (simp; omega)) (by show _ < ((8 : Nat) : Int); first | omega | exact hp_.1 | exact hp_.2 | (simp; omega))))) ?_
  refine TL.gy 11 (Step.bin (r := .int .u8 (((b.getD (i / 8).toNat 0) / 2 ^ ((i % 8)).toNat) % 2)) rfl rfl (lt_ok rfl) rfl rfl (Bin.and (k := .u8) (a := ((b.getD (i / 8).toNat 0) / 2 ^ ((i % 8)).toNat)) (b := 1) (and1_u8 (by first | omega | exact hp_.1 | exact hp_.2 | (simp; omega)) (by first | omega | exact hp_.1 | exact hp_.2 | (simp; omega))))) ?_
  refine TL.gy 11 (Step.bin rfl rfl (lt_ok rfl) rfl rfl (Bin.eql (k := .u8) (a := (((b.getD (i / 8).toNat 0) / 2 ^ ((i % 8)).toNat) % 2)) (b := 1))) ?_
  refine TL.pk true (pB (decide ((((b.getD (i / 8).toNat 0) / 2 ^ ((i % 8)).toNat) % 2) = 1))) ?_
  refine TL.as (pB (decide ((((b.getD (i / 8).toNat 0) / 2 ^ ((i % 8)).toNat) % 2) = 1))) ?_
  refine TL.nil ?_
  refine T.ret ?_
  refine ⟨[(false, [.d (.bool (decide ((((b.getD (i / 8).toNat 0) / 2 ^ ((i % 8)).toNat) % 2) = 1)))])], (.cons rfl .nil), rfl, [], (RetC.rd' ?_ .nil)⟩ <;> ((congr 1; symm; unfold bitHas; first | (rw [decide_eq_false (p := 0 ≤ i) (by omega)]; rfl) | (rw [decide_eq_true (p := 0 ≤ i) (by omega), decide_eq_false (p := i / 8 < (b.length : Int)) (by omega)]; rfl) | (rw [decide_eq_true (p := 0 ≤ i) (by omega), decide_eq_true (p := i / 8 < (b.length : Int)) (by omega)]; rfl) | (by_cases hi_ : 0 ≤ i; (rw [decide_eq_true (p := 0 ≤ i) (by omega), decide_eq_false (p := i / 8 < (b.length : Int)) (by omega)]; rfl); (rw [decide_eq_false (p := 0 ≤ i) hi_]; rfl))))
 ·
  refine TL.known 11 hb1 rfl ?_
  have hb1' := hb1
  replace hb1' := of_decide_eq_false hb1'
  refine TL.gf 11 ?_
  refine TL.gf 11 ?_
  refine TL.gf 11 ?_
  refine TL.gf 11 ?_
  refine TL.gf 11 ?_
  refine TL.gf 11 ?_
  refine TL.gf 11 ?_
  refine TL.gf 11 ?_
  refine TL.gf 11 ?_
  refine TL.gf 11 ?_
  refine TL.pk false (pB false) ?_
  refine TL.as (pB false) ?_
  refine TL.nil ?_
  refine T.ret ?_
  refine ⟨[(false, [.d (.bool false)])], (.cons rfl .nil), rfl, [], (RetC.rd' ?_ .nil)⟩ <;> ((congr 1; symm; unfold bitHas; first | (rw [decide_eq_false (p := 0 ≤ i) (by omega)]; rfl) | (rw [decide_eq_true (p := 0 ≤ i) (by omega), decide_eq_false (p := i / 8 < (b.length : Int)) (by omega)]; rfl) | (rw [decide_eq_true (p := 0 ≤ i) (by omega), decide_eq_true (p := i / 8 < (b.length : Int)) (by omega)]; rfl) | (by_cases hi_ : 0 ≤ i; (rw [decide_eq_true (p := 0 ≤ i) (by omega), decide_eq_false (p := i / 8 < (b.length : Int)) (by omega)]; rfl); (rw [decide_eq_false (p := 0 ≤ i) hi_]; rfl))))
theorem ok_impl_BitsList (b : List Int) (h0_ : U8s b) (h1_ : b.length ≤ 1099511627776) : RO Try.prog 194 [.one (.ints .u8 b)] [(false, [.own 3 (.ints .i64 (bitList b))])] := by
 refine RO.intro Try.func194 rfl 21 rfl (le_ok rfl) fun w Z => ?_
 refine T.bnd 0 0 rfl rfl fun hb_0_0 => ?_
 simp only [D.size, List.length_map] at hb_0_0
 refine T.seq ?_
 refine T.region ?_
 refine TL.as (.one (.nil)) ?_
 refine TL.nil ?_
 refine T.seq ?_
 refine T.region ?_
 refine TL.c (Step.lit (e := 3) (z := 1) (by_ := 8) (xs := []) (pss := []) (es := []) (ss := []) (d := (.ints .i64 [])) rfl rfl (lt_ok rfl) (by kernel_rfl) rfl rfl .nil (by simp) (le_ok rfl) (le_ok rfl) rfl .nil rfl (by simp) (by simp) rfl trivial rfl rfl) ?_
 refine TL.as (.one (.row 5 [])) ?_
 refine TL.nil ?_
 refine T.seq ?_
 refine T.seq ?_
 refine T.region ?_
 refine TL.mv (pS b) ?_
 refine TL.c (Step.len (e := 5) (z := 1) (d := (.ints .u8 b)) rfl rfl (lt_ok rfl) (by kernel_rfl) rfl rfl) ?_
 refine TL.c (Step.bin (r := .int .i64 (8 * (b.length : Int))) rfl rfl (lt_ok rfl) rfl rfl (Bin.mul (a := 8) (b := (b.length : Int)) (by first | exact wrap_ok (by first | omega | (simp; omega)) (by first | omega | (simp; omega)) | rfl))) ?_
 refine TL.mv (pI 0) ?_
 refine TL.nil ?_
 refine T.block ?_
 refine T.loop (ι := Nat × (List Int)) (fun xx_ => { tm := [(0, (pS b)), (2, (.one (.nil))), (8, (pI (8 * (b.length : Int)))), (9, (pI ((xx_.1) : Int))), (3, (.one (.row 5 [])))], rows := [(5, (3, (.ints .i64 (xx_.2))))], boxes := [] }) (fun xx_ => (xx_.1) ≤ 8 * b.length ∧ (xx_.2) ++ bitsGo b (8 * b.length - (xx_.1)) (xx_.1) = bitList b ∧ (xx_.2).length ≤ (xx_.1)) (fun xx_ => 8 * b.length - (xx_.1)) (0, []) ?_ ?_ ?_
 · refine Env.le_mk ⟨rfl, rfl, rfl, ?_, rfl, trivial⟩ ⟨?_, trivial⟩ trivial <;> (first | rfl | (refine congrArg (fun x => some (_, D.ints .i64 x)) ?_; rfl) | (refine congrArg (fun n => PV.one (.d (.int .i64 n))) ?_; first | omega | (simp; done)))
 · (dsimp only; refine ⟨Nat.zero_le _, rfl, Nat.zero_le _⟩)
 ·
  intro xx_ hx
  obtain ⟨i, o⟩ := xx_
  try dsimp only at hx ⊢
  obtain ⟨hx1, hx2, hx3⟩ := hx
  refine T.seq ?_
  refine T.region ?_
  refine TL.c (Step.bin rfl rfl (lt_ok rfl) rfl rfl (Bin.lss (k := .i64) (a := (i : Int)) (b := (8 * (b.length : Int))))) ?_
  refine TL.nil ?_
  refine T.seq ?_
  refine T.cond (b := decide ((i : Int) < (8 * (b.length : Int)))) rfl (fun h1 => ?_) (fun h1 => ?_)
  ·
   replace h1 := of_decide_eq_true h1
   refine T.skip ?_
   refine T.seq ?_
   refine T.block ?_
   refine T.seq ?_
   refine T.region ?_
   refine TL.mv (pI (i : Int)) ?_
   refine TL.as (pI (i : Int)) ?_
   refine TL.nil ?_
   refine T.seq ?_
   refine T.region ?_
   refine TL.mv (pS b) ?_
   refine TL.mv (pI (i : Int)) ?_
   refine TL.c (Step.cl (xs := [.tmp 12, .tmp 13]) (ps := [(pS b), (pI (i : Int))]) (g := .func 197) false (.cons (.one (.d _)) (.cons (.one (.d _)) .nil)) (ok_impl_BitsHas b (i : Int) (by assumption) (by first | omega | assumption | (simp only [List.length_append] at *; omega)) (by first | omega | (have := hn_ (by first | assumption | simpa using ‹(!bitsOk b n) = false›); omega)))) ?_
   refine TL.nil ?_
   refine T.cond (b := bitHas b (i : Int)) rfl (fun h2 => ?_) (fun h2 => ?_)
   ·
    refine T.region ?_
    refine TL.mv (.one (.row 5 [])) ?_
    refine TL.mv (pI (i : Int)) ?_
    refine TL.c (Step.lit (e := 3) (z := 1) (by_ := 8) (xs := [.tmp 16]) (pss := [[cI (i : Int)]]) (es := [(.int .i64 (i : Int))]) (ss := []) (d := (.ints .i64 [(i : Int)])) rfl rfl (lt_ok rfl) (by kernel_rfl) rfl rfl (.cons rfl .nil) (by simp) (le_ok rfl) (le_ok rfl) rfl (.val rfl .nil) rfl (by simp) (by simp) rfl trivial rfl rfl) ?_
    refine TL.c (Step.append (e := 3) (z := 1) (by_ := 8) (d := (.ints .i64 o)) (dy := (.ints .i64 [(i : Int)])) (d' := (.ints .i64 (o ++ [(i : Int)]))) (ss := []) rfl rfl (lt_ok rfl) (by kernel_rfl) rfl rfl rfl (lt_ok rfl) rfl (.copy rfl rfl rfl (by simp [D.flat, D.val])) (by simp) rfl (by simp only [D.size, List.length_map]; first | omega | (simp only [List.length_append, List.length_cons, List.length_nil]; omega) | (simp; omega) | (simp only [List.length_append] at *; omega)) (by simp only [D.size, List.length_map]; first | omega | (simp only [List.length_append, List.length_cons, List.length_nil]; omega) | (simp; omega) | (simp only [List.length_append] at *; omega)) (by simp)) ?_
    refine TL.as (.one (.row 5 [])) ?_
    refine TL.nil ?_
    refine T.region ?_
    refine TL.c (Step.bin (r := .int .i64 ((i : Int) + 1)) rfl rfl (lt_ok rfl) rfl rfl (Bin.add (a := (i : Int)) (b := 1) (by first | exact wrap_ok (by first | omega | (simp; omega)) (by first | omega | (simp; omega)) | rfl))) ?_
    refine TL.mv (pI ((i : Int) + 1)) ?_
    refine TL.nil ?_
    refine ⟨(i + 1, o ++ [(i : Int)]), by (refine ⟨by omega, ?_, by simp only [List.length_append, List.length_cons, List.length_nil]; omega⟩; rw [← hx2, bitsGo_next b (n := 8 * b.length) (i := i) (by omega)]; first | (rw [if_pos (by assumption)]; simp only [List.append_assoc]; done) | (rw [if_neg (by simp [*])]; rfl)), by (dsimp only; omega), Env.le_mk ⟨rfl, rfl, rfl, ?_, rfl, trivial⟩ ⟨?_, trivial⟩ trivial⟩ <;> (first | rfl | (refine congrArg (fun x => some (_, D.ints .i64 x)) ?_; rfl) | (refine congrArg (fun n => PV.one (.d (.int .i64 n))) ?_; first | omega | (simp; done)))
   ·
    refine T.skip ?_
    refine T.region ?_
    refine TL.c (Step.bin (r := .int .i64 ((i : Int) + 1)) rfl rfl (lt_ok rfl) rfl rfl (Bin.add (a := (i : Int)) (b := 1) (by first | exact wrap_ok (by first | omega | (simp; omega)) (by first | omega | (simp; omega)) | rfl))) ?_
    refine TL.mv (pI ((i : Int) + 1)) ?_
    refine TL.nil ?_
    refine ⟨(i + 1, o), by (refine ⟨by omega, ?_, by simp only [List.length_append, List.length_cons, List.length_nil]; omega⟩; rw [← hx2, bitsGo_next b (n := 8 * b.length) (i := i) (by omega)]; first | (rw [if_pos (by assumption)]; simp only [List.append_assoc]; done) | (rw [if_neg (by simp [*])]; rfl)), by (dsimp only; omega), Env.le_mk ⟨rfl, rfl, rfl, ?_, rfl, trivial⟩ ⟨rfl, trivial⟩ trivial⟩ <;> (first | rfl | (refine congrArg (fun x => some (_, D.ints .i64 x)) ?_; rfl) | (refine congrArg (fun n => PV.one (.d (.int .i64 n))) ?_; first | omega | (simp; done)))
  ·
   replace h1 := of_decide_eq_false h1
   refine T.exit ?_
   refine T.seq ?_
   refine T.region ?_
   refine TL.mv (.one (.row 5 [])) ?_
   refine TL.as (.one (.row 5 [])) ?_
   refine TL.nil ?_
   refine T.ret ?_
   refine ⟨[(false, [.row 5 []])], (.cons rfl .nil), rfl, [5], (RetC.own' rfl ?_ rfl .nil)⟩ <;> ((congr 1; rw [← hx2, bitsGo_end b (by omega), List.append_nil]))
theorem ok_impl_BitsOk (b : List Int) (n : Int) (h0_ : U8s b) (h1_ : b.length ≤ 1099511627776) : RO Try.prog 174 [.one (.ints .u8 b), .one (.int .i64 n)] [(false, [.rd (.bool (bitsOk b n))])] := by
 refine RO.intro Try.func174 rfl 28 rfl (le_ok rfl) fun w Z => ?_
 refine T.bnd 0 0 rfl rfl fun hb_0_0 => ?_
 simp only [D.size, List.length_map] at hb_0_0
 refine T.seq ?_
 refine T.region ?_
 refine TL.as (pB false) ?_
 refine TL.nil ?_
 refine T.seq ?_
 refine T.seq ?_
 refine T.region ?_
 refine TL.mv (pI n) ?_
 refine TL.c (Step.cl (xs := [.tmp 7, .const (.int .i64 1), .const (.int .i64 10)]) (ps := [(pI n), (pI 1), (pI 10)]) (g := .func 117) false (.cons (.one (.d _)) (.cons (.one (.d _)) (.cons (.one (.d _)) .nil))) (ok_impl_within n 1 10)) ?_
 refine TL.c (Step.not (b := (decide (1 ≤ n ∧ n ≤ 10))) rfl rfl (lt_ok rfl) rfl) ?_
 refine TL.mv (pB (!(decide (1 ≤ n ∧ n ≤ 10)))) ?_
 rcases Bool.eq_false_or_eq_true (!(decide (1 ≤ n ∧ n ≤ 10))) with hb1 | hb1
 ·
  refine TL.known 10 hb1 rfl ?_
  have hb1' := hb1
  replace hb1' : (decide (1 ≤ n ∧ n ≤ 10)) = false := by simpa only [Bool.not_eq_true', Bool.not_eq_false'] using hb1'
  replace hb1' := of_decide_eq_false hb1'
  refine TL.gf 10 ?_
  refine TL.gf 10 ?_
  refine TL.gf 10 ?_
  refine TL.gf 10 ?_
  refine TL.gf 10 ?_
  refine TL.pk true (pB true) ?_
  refine TL.nil ?_
  refine T.cond (b := true) rfl (fun h2_ => ?_) (fun h2_ => absurd h2_ (by simp))
  refine T.seq ?_
  refine T.region ?_
  refine TL.as (pB false) ?_
  refine TL.nil ?_
  refine T.ret ?_
  refine ⟨[(false, [.d (.bool false)])], (.cons rfl .nil), rfl, [], (RetC.rd' ?_ .nil)⟩ <;> (first | (congr 1; symm; simp only [bitsOk, *, Bool.and_true, Bool.true_and, Bool.and_false, Bool.false_and, decide_true, decide_false, and_true, true_and, and_self, and_false, false_and, Bool.and_self, not_true, not_false, Bool.not_true, Bool.not_false, ge_iff_le, gt_iff_lt, if_true, if_false, Bool.false_eq_true, ite_true, ite_false, reduceIte]; done) | (congr 1; symm; unfold bitsOk; rw [decide_eq_false (p := (1 ≤ n ∧ n ≤ 10)) (by omega)]; rfl) | (congr 1; symm; unfold bitsOk; rw [decide_eq_false (p := ((b.length : Int) = bitsSize n)) (by omega)]; simp; done) | (congr 1; symm; unfold bitsOk; rw [all_no (i := i) (by omega) (by omega)]; simp; done) | (congr 1; symm; unfold bitsOk; rw [List.take_of_length_le (by omega)] at hx2; rw [hx2, decide_eq_true (p := (1 ≤ n ∧ n ≤ 10)) (by omega), decide_eq_true (p := ((b.length : Int) = bitsSize n)) (by omega)]; rfl))
 ·
  refine TL.known 10 hb1 rfl ?_
  have hb1' := hb1
  replace hb1' : (decide (1 ≤ n ∧ n ≤ 10)) = true := by simpa only [Bool.not_eq_true', Bool.not_eq_false'] using hb1'
  replace hb1' := of_decide_eq_true hb1'
  refine TL.gm 10 (pS b) ?_
  refine TL.gy 10 (Step.len (e := 5) (z := 1) (d := (.ints .u8 b)) rfl rfl (lt_ok rfl) (by kernel_rfl) rfl rfl) ?_
  refine TL.gm 10 (pI n) ?_
  refine TL.gy 10 (Step.cl (xs := [.tmp 13]) (ps := [(pI n)]) (g := .func 182) false (.cons (.one (.d _)) .nil) (ok_impl_BitsSize n (by first | omega | assumption | (simp only [List.length_append] at *; omega)))) ?_
  refine TL.gy 10 (Step.bin rfl rfl (lt_ok rfl) rfl rfl (Bin.neq (k := .i64) (a := (b.length : Int)) (b := (bitsSize n)))) ?_
  refine TL.pk false (pB (decide ((b.length : Int) ≠ (bitsSize n)))) ?_
  refine TL.nil ?_
  refine T.cond (b := decide ((b.length : Int) ≠ (bitsSize n))) rfl (fun h3 => ?_) (fun h3 => ?_)
  ·
   replace h3 := of_decide_eq_true h3
   refine T.seq ?_
   refine T.region ?_
   refine TL.as (pB false) ?_
   refine TL.nil ?_
   refine T.ret ?_
   refine ⟨[(false, [.d (.bool false)])], (.cons rfl .nil), rfl, [], (RetC.rd' ?_ .nil)⟩ <;> (first | (congr 1; symm; simp only [bitsOk, *, Bool.and_true, Bool.true_and, Bool.and_false, Bool.false_and, decide_true, decide_false, and_true, true_and, and_self, and_false, false_and, Bool.and_self, not_true, not_false, Bool.not_true, Bool.not_false, ge_iff_le, gt_iff_lt, if_true, if_false, Bool.false_eq_true, ite_true, ite_false, reduceIte]; done) | (congr 1; symm; unfold bitsOk; rw [decide_eq_false (p := (1 ≤ n ∧ n ≤ 10)) (by omega)]; rfl) | (congr 1; symm; unfold bitsOk; rw [decide_eq_false (p := ((b.length : Int) = bitsSize n)) (by omega)]; simp; done) | (congr 1; symm; unfold bitsOk; rw [all_no (i := i) (by omega) (by omega)]; simp; done) | (congr 1; symm; unfold bitsOk; rw [List.take_of_length_le (by omega)] at hx2; rw [hx2, decide_eq_true (p := (1 ≤ n ∧ n ≤ 10)) (by omega), decide_eq_true (p := ((b.length : Int) = bitsSize n)) (by omega)]; rfl))
  ·
   replace h3 := of_decide_eq_false h3
   refine T.skip ?_
   refine T.seq ?_
   refine T.seq ?_
   refine T.region ?_
   refine TL.mv (pS b) ?_
   have nn4 := bitList_len b
   refine TL.c (Step.cl (xs := [.tmp 17]) (ps := [(pS b)]) (g := .func 194) false (.cons (.one (.d _)) .nil) (ok_impl_BitsList b (by assumption) (by first | omega | assumption | (simp only [List.length_append] at *; omega)))) ?_
   refine TL.c (Step.len (e := 3) (z := 1) (d := (.ints .i64 (bitList b))) rfl rfl (lt_ok rfl) (by kernel_rfl) rfl rfl) ?_
   refine TL.mv (pI 0) ?_
   refine TL.nil ?_
   refine T.block ?_
   refine T.loop (ι := Nat) (fun xx_ => { tm := [(1, (pI n)), (18, (.one (.row 1018 []))), (19, (pI ((bitList b).length : Int))), (20, (pI (xx_ : Int)))], rows := [(1018, (3, (.ints .i64 (bitList b))))], boxes := [] }) (fun xx_ => xx_ ≤ (bitList b).length ∧ ((bitList b).take xx_).all (fun x => decide (x < n)) = true) (fun xx_ => (bitList b).length - xx_) 0 ?_ ?_ ?_
   · refine Env.le_mk ⟨rfl, rfl, rfl, ?_, trivial⟩ ⟨rfl, trivial⟩ trivial <;> (first | rfl | (simp; done) | (congr 3; omega))
   · (refine ⟨Nat.zero_le _, by rw [List.take_zero]; rfl⟩)
   ·
    intro i hx
    try dsimp only at hx ⊢
    obtain ⟨hx1, hx2⟩ := hx
    refine T.seq ?_
    refine T.region ?_
    refine TL.c (Step.bin rfl rfl (lt_ok rfl) rfl rfl (Bin.lss (k := .i64) (a := (i : Int)) (b := ((bitList b).length : Int)))) ?_
    refine TL.nil ?_
    refine T.seq ?_
    refine T.cond (b := decide ((i : Int) < ((bitList b).length : Int))) rfl (fun h5 => ?_) (fun h5 => ?_)
    ·
     replace h5 := of_decide_eq_true h5
     refine T.skip ?_
     refine T.seq ?_
     refine T.block ?_
     refine T.seq ?_
     refine T.region ?_
     refine TL.c (Step.index_row (e := 3) (z := 1) (i := (i : Int)) rfl rfl (lt_ok rfl) (by kernel_rfl) rfl rfl rfl rfl (lt_ok rfl) rfl (by first | omega | (simp; omega)) (by simp only [D.at_, D.cell, D.size]; first | omega | (simp; omega))) ?_
     refine TL.c (Step.load_row (c := cI ((bitList b).getD i 0)) rfl rfl (lt_ok rfl) (by kernel_rfl) rfl rfl rfl) ?_
     refine TL.as (pI ((bitList b).getD i 0)) ?_
     refine TL.nil ?_
     refine T.seq ?_
     refine T.region ?_
     refine TL.mv (pI ((bitList b).getD i 0)) ?_
     refine TL.mv (pI n) ?_
     refine TL.c (Step.bin rfl rfl (lt_ok rfl) rfl rfl (Bin.geq (k := .i64) (a := ((bitList b).getD i 0)) (b := n))) ?_
     refine TL.nil ?_
     refine T.cond (b := decide (n ≤ ((bitList b).getD i 0))) rfl (fun h6 => ?_) (fun h6 => ?_)
     ·
      replace h6 := of_decide_eq_true h6
      refine T.seq ?_
      refine T.region ?_
      refine TL.as (pB false) ?_
      refine TL.nil ?_
      refine T.ret ?_
      refine ⟨[(false, [.d (.bool false)])], (.cons rfl .nil), rfl, [], (RetC.rd' ?_ .nil)⟩ <;> (first | (congr 1; symm; simp only [bitsOk, *, Bool.and_true, Bool.true_and, Bool.and_false, Bool.false_and, decide_true, decide_false, and_true, true_and, and_self, and_false, false_and, Bool.and_self, not_true, not_false, Bool.not_true, Bool.not_false, ge_iff_le, gt_iff_lt, if_true, if_false, Bool.false_eq_true, ite_true, ite_false, reduceIte]; done) | (congr 1; symm; unfold bitsOk; rw [decide_eq_false (p := (1 ≤ n ∧ n ≤ 10)) (by omega)]; rfl) | (congr 1; symm; unfold bitsOk; rw [decide_eq_false (p := ((b.length : Int) = bitsSize n)) (by omega)]; simp; done) | (congr 1; symm; unfold bitsOk; rw [all_no (i := i) (by omega) (by omega)]; simp; done) | (congr 1; symm; unfold bitsOk; rw [List.take_of_length_le (by omega)] at hx2; rw [hx2, decide_eq_true (p := (1 ≤ n ∧ n ≤ 10)) (by omega), decide_eq_true (p := ((b.length : Int) = bitsSize n)) (by omega)]; rfl))
     ·
      replace h6 := of_decide_eq_false h6
      refine T.skip ?_
      refine T.region ?_
      refine TL.c (Step.bin (r := .int .i64 ((i : Int) + 1)) rfl rfl (lt_ok rfl) rfl rfl (Bin.add (a := (i : Int)) (b := 1) (by first | exact wrap_ok (by first | omega | (simp; omega)) (by first | omega | (simp; omega)) | rfl))) ?_
      refine TL.mv (pI ((i : Int) + 1)) ?_
      refine TL.nil ?_
      refine ⟨i + 1, by (refine ⟨by omega, all_step (by omega) hx2 (by omega)⟩), by first | omega | (dsimp only; omega), Env.le_mk ⟨rfl, rfl, rfl, ?_, trivial⟩ ⟨rfl, trivial⟩ trivial⟩ <;> (first | rfl | (simp; done) | (congr 3; omega))
    ·
     replace h5 := of_decide_eq_false h5
     refine T.exit ?_
     refine T.seq ?_
     refine T.region ?_
     refine TL.as (pB true) ?_
     refine TL.nil ?_
     refine T.ret ?_
     refine ⟨[(false, [.d (.bool true)])], (.cons rfl .nil), rfl, [], (RetC.rd' ?_ .nil)⟩ <;> (first | (congr 1; symm; simp only [bitsOk, *, Bool.and_true, Bool.true_and, Bool.and_false, Bool.false_and, decide_true, decide_false, and_true, true_and, and_self, and_false, false_and, Bool.and_self, not_true, not_false, Bool.not_true, Bool.not_false, ge_iff_le, gt_iff_lt, if_true, if_false, Bool.false_eq_true, ite_true, ite_false, reduceIte]; done) | (congr 1; symm; unfold bitsOk; rw [decide_eq_false (p := (1 ≤ n ∧ n ≤ 10)) (by omega)]; rfl) | (congr 1; symm; unfold bitsOk; rw [decide_eq_false (p := ((b.length : Int) = bitsSize n)) (by omega)]; simp; done) | (congr 1; symm; unfold bitsOk; rw [all_no (i := i) (by omega) (by omega)]; simp; done) | (congr 1; symm; unfold bitsOk; rw [List.take_of_length_le (by omega)] at hx2; rw [hx2, decide_eq_true (p := (1 ≤ n ∧ n ≤ 10)) (by omega), decide_eq_true (p := ((b.length : Int) = bitsSize n)) (by omega)]; rfl))
end Go.Proofs.Ytlcmflenbddliaa.Rf
