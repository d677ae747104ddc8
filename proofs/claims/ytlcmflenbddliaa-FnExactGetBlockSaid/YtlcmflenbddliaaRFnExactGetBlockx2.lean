/- The functions that FnExactGetBlock calls, each held to what it answers. Printed by a program of this session; Lean checks it. -/
import Derived.Test.YtlcmflenbddliaaProg
import Derived.Test.YtlcmflenbddliaaRFnExactGetBlockx1
namespace Go.Proofs.Ytlcmflenbddliaa.Rf
open Go.RowKit
set_option linter.unusedVariables false
set_option linter.unnecessarySimpa false
set_option linter.unusedSimpArgs false
set_option maxRecDepth 100000
set_option maxHeartbeats 4000000
theorem ok_impl_BitsSize (n : Int) (h0_ : n ≤ 9223372036854775807) : RO Try.prog 182 [.one (.int .i64 n)] [(false, [.rd (.int .i64 (bitsSize n))])] := by
 refine RO.intro Try.func182 rfl 9 rfl (le_ok rfl) fun w Z => ?_
 refine T.seq ?_
 refine T.region ?_
 refine TL.as (pI 0) ?_
 refine TL.nil ?_
 refine T.seq ?_
 refine T.seq ?_
 refine T.region ?_
 refine TL.mv (pI n) ?_
 refine TL.b _ (Bin.lss (k := .i64) (a := n) (b := 1)) ?_
 refine TL.nil ?_
 refine T.ci rfl (fun h1 => ?_) (fun h1 => ?_)
 ·
  refine T.seq ?_
  refine T.region ?_
  refine TL.as (pI 0) ?_
  refine TL.nil ?_
  refine T.ret ?_
  refine ⟨[(false, [cI 0])], (.cons rfl .nil), rfl, [], (RetC.r ?_ .nil)⟩ <;> ((congr 1; unfold bitsSize; first | rw [if_pos (by omega)] | (rw [if_neg (by omega)]; done) | (rw [if_neg (by omega)]; omega)))
 refine T.skip ?_
 refine T.seq ?_
 refine T.region ?_
 refine TL.mv (pI n) ?_
 refine TL.c (Step.bin (r := .int .i64 (n - 1)) rfl rfl (lt_ok rfl) rfl rfl (Bin.sub (a := n) (b := 1) (by first | exact wrap_ok (by first | omega | (simp; omega)) (by first | omega | (simp; omega)) | rfl))) ?_
 refine TL.c (Step.bin (r := .int .i64 ((n - 1) / 8)) rfl rfl (lt_ok rfl) rfl rfl (Bin.quo (k := .i64) (a := (n - 1)) (b := 8) (by decide) (by rw [Int.tdiv_eq_ediv_of_nonneg (by first | omega | (simp; omega))]; exact wrap_ok (by first | omega | (simp; omega)) (by first | omega | (simp; omega))))) ?_
 refine TL.c (Step.bin (r := .int .i64 (((n - 1) / 8) + 1)) rfl rfl (lt_ok rfl) rfl rfl (Bin.add (a := ((n - 1) / 8)) (b := 1) (by first | exact wrap_ok (by first | omega | (simp; omega)) (by first | omega | (simp; omega)) | rfl))) ?_
 refine TL.as (pI (((n - 1) / 8) + 1)) ?_
 refine TL.nil ?_
 refine T.ret ?_
 refine ⟨[(false, [cI (((n - 1) / 8) + 1)])], (.cons rfl .nil), rfl, [], (RetC.r ?_ .nil)⟩ <;> ((congr 1; unfold bitsSize; first | rw [if_pos (by omega)] | (rw [if_neg (by omega)]; done) | (rw [if_neg (by omega)]; omega)))
theorem ok_impl_BitsHas (b : List Int) (i : Int) (h0_ : U8s b) (h1_ : b.length ≤ 17592186044416) (h2_ : i ≤ 9223372036854775807) : RO Try.prog 197 [.one (.ints .u8 b), .one (.int .i64 i)] [(false, [.rd (.bool (bitHas b i))])] := by
 refine RO.intro Try.func197 rfl 23 rfl (le_ok rfl) fun w Z => ?_
 refine T.bnd 0 0 rfl rfl fun hb_0_0 => ?_
 simp only [D.size, List.length_map] at hb_0_0
 have hu_ := getD_u8 h0_ (i / 8).toNat
 have hp_ := div_pow_bd hu_.1 hu_.2 (i % 8).toNat
 refine T.seq ?_
 refine T.region ?_
 refine TL.as (pB false) ?_
 refine TL.nil ?_
 refine T.seq ?_
 refine T.region ?_
 refine TL.mv (pI i) ?_
 refine TL.mv (pS b) ?_
 refine TL.c (Step.len (e := 5) (z := 1) (d := (.ints .u8 b)) rfl rfl (lt_ok rfl) (by kernel_rfl) rfl rfl) ?_
 refine TL.c (Step.bin (r := .int .i64 (8 * (b.length : Int))) rfl rfl (lt_ok rfl) rfl rfl (Bin.mul (a := 8) (b := (b.length : Int)) (by first | exact wrap_ok (by first | omega | exact hp_.1 | exact hp_.2 | (simp; omega)) (by first | omega | exact hp_.1 | exact hp_.2 | (simp; omega)) | rfl))) ?_
 refine TL.c (Step.bin (r := .int .i64 ((8 * (b.length : Int)) - 1)) rfl rfl (lt_ok rfl) rfl rfl (Bin.sub (a := (8 * (b.length : Int))) (b := 1) (by first | exact wrap_ok (by first | omega | exact hp_.1 | exact hp_.2 | (simp; omega)) (by first | omega | exact hp_.1 | exact hp_.2 | (simp; omega)) | rfl))) ?_
 refine TL.c (Step.cl (xs := [.tmp 5, .const (.int .i64 0), .tmp 9]) (ps := [(pI i), (pI 0), (pI ((8 * (b.length : Int)) - 1))]) (g := .func 117) false (.cons (.one (.d _)) (.cons (.one (.d _)) (.cons (.one (.d _)) .nil))) (ok_impl_within i 0 ((8 * (b.length : Int)) - 1))) ?_
 refine TL.mv (pB (decide (0 ≤ i ∧ i ≤ ((8 * (b.length : Int)) - 1)))) ?_
 rcases Bool.eq_false_or_eq_true (decide (0 ≤ i ∧ i ≤ ((8 * (b.length : Int)) - 1))) with hb1 | hb1
 ·
  refine TL.known 11 hb1 rfl ?_
  have hb1' := hb1
  replace hb1' := of_decide_eq_true hb1'
  refine TL.gm 11 (pS b) ?_
  refine TL.gm 11 (pI i) ?_
  refine TL.gy 11 (Step.bin (r := .int .i64 (i / 8)) rfl rfl (lt_ok rfl) rfl rfl (Bin.quo (k := .i64) (a := i) (b := 8) (by decide) (by rw [Int.tdiv_eq_ediv_of_nonneg (by first | omega | exact hp_.1 | exact hp_.2 | (simp; omega))]; exact wrap_ok (by first | omega | exact hp_.1 | exact hp_.2 | (simp; omega)) (by first | omega | exact hp_.1 | exact hp_.2 | (simp; omega))))) ?_
  refine TL.gy 11 (Step.index (e := 5) (z := 1) (i := (i / 8)) rfl rfl (lt_ok rfl) (by kernel_rfl) rfl rfl rfl (lt_ok rfl) rfl (by first | omega | exact hp_.1 | exact hp_.2 | (simp; omega)) (by simp only [D.size]; first | omega | exact hp_.1 | exact hp_.2 | (simp; omega))) ?_
  refine TL.gy 11 (Step.load (e := (.int .u8 (b.getD (i / 8).toNat 0))) rfl rfl (lt_ok rfl) (by kernel_rfl) rfl rfl) ?_
  refine TL.gm 11 (pI i) ?_
  refine TL.gy 11 (Step.bin (r := .int .i64 (i % 8)) rfl rfl (lt_ok rfl) rfl rfl (Bin.rem (k := .i64) (a := i) (b := 8) (by decide) (Int.tmod_eq_emod_of_nonneg (by first | omega | exact hp_.1 | exact hp_.2 | (simp; omega))))) ?_
  refine TL.gy 11 (Step.bin (r := .int .u8 ((b.getD (i / 8).toNat 0) / 2 ^ ((i % 8)).toNat)) rfl rfl (lt_ok rfl) rfl rfl (Bin.shr (k := .u8) (k' := .i64) (a := (b.getD (i / 8).toNat 0)) (b := (i % 8)) (by first | omega | exact hp_.1 | exact hp_.2 | (simp; omega)) (shr_ok (by first | omega | exact hp_.1 | exact hp_.2 | (simp; omega)) (by show _ < ((8 : Nat) : Int); first | omega | exact hp_.1 | exact hp_.2 | (simp; omega))))) ?_
  refine TL.gy 11 (Step.bin (r := .int .u8 (((b.getD (i / 8).toNat 0) / 2 ^ ((i % 8)).toNat) % 2)) rfl rfl (lt_ok rfl) rfl rfl (Bin.and (k := .u8) (a := ((b.getD (i / 8).toNat 0) / 2 ^ ((i % 8)).toNat)) (b := 1) (and1_u8 (by first | omega | exact hp_.1 | exact hp_.2 | (simp; omega)) (by first | omega | exact hp_.1 | exact hp_.2 | (simp; omega))))) ?_
  refine TL.gy 11 (Step.bin rfl rfl (lt_ok rfl) rfl rfl (Bin.eql (k := .u8) (a := (((b.getD (i / 8).toNat 0) / 2 ^ ((i % 8)).toNat) % 2)) (b := 1))) ?_
  refine TL.pk true (pB (decide ((((b.getD (i / 8).toNat 0) / 2 ^ ((i % 8)).toNat) % 2) = 1))) ?_
  refine TL.as (pB (decide ((((b.getD (i / 8).toNat 0) / 2 ^ ((i % 8)).toNat) % 2) = 1))) ?_
  refine TL.nil ?_
  refine T.ret ?_
  refine ⟨[(false, [.d (.bool (decide ((((b.getD (i / 8).toNat 0) / 2 ^ ((i % 8)).toNat) % 2) = 1)))])], (.cons rfl .nil), rfl, [], (RetC.r ?_ .nil)⟩ <;> ((congr 1; symm; unfold bitHas; first | (rw [decide_eq_false (p := 0 ≤ i) (by omega)]; rfl) | (rw [decide_eq_true (p := 0 ≤ i) (by omega), decide_eq_false (p := i / 8 < (b.length : Int)) (by omega)]; rfl) | (rw [decide_eq_true (p := 0 ≤ i) (by omega), decide_eq_true (p := i / 8 < (b.length : Int)) (by omega)]; rfl) | (by_cases hi_ : 0 ≤ i; (rw [decide_eq_true (p := 0 ≤ i) (by omega), decide_eq_false (p := i / 8 < (b.length : Int)) (by omega)]; rfl); (rw [decide_eq_false (p := 0 ≤ i) hi_]; rfl))))
 refine TL.known 11 hb1 rfl ?_
 have hb1' := hb1
 replace hb1' := of_decide_eq_false hb1'
 refine TL.gf 11 ?_
 refine TL.gf 11 ?_
 refine TL.gf 11 ?_
 refine TL.gf 11 ?_
 refine TL.gf 11 ?_
 refine TL.gf 11 ?_
 refine TL.gf 11 ?_
 refine TL.gf 11 ?_
 refine TL.gf 11 ?_
 refine TL.gf 11 ?_
 refine TL.pk false (pB false) ?_
 refine TL.as (pB false) ?_
 refine TL.nil ?_
 refine T.ret ?_
 refine ⟨[(false, [.d (.bool false)])], (.cons rfl .nil), rfl, [], (RetC.r ?_ .nil)⟩ <;> ((congr 1; symm; unfold bitHas; first | (rw [decide_eq_false (p := 0 ≤ i) (by omega)]; rfl) | (rw [decide_eq_true (p := 0 ≤ i) (by omega), decide_eq_false (p := i / 8 < (b.length : Int)) (by omega)]; rfl) | (rw [decide_eq_true (p := 0 ≤ i) (by omega), decide_eq_true (p := i / 8 < (b.length : Int)) (by omega)]; rfl) | (by_cases hi_ : 0 ≤ i; (rw [decide_eq_true (p := 0 ≤ i) (by omega), decide_eq_false (p := i / 8 < (b.length : Int)) (by omega)]; rfl); (rw [decide_eq_false (p := 0 ≤ i) hi_]; rfl))))
theorem ok_impl_BitsList (b : List Int) (h0_ : U8s b) (h1_ : b.length ≤ 1099511627776) : RO Try.prog 194 [.one (.ints .u8 b)] [(false, [.own 3 (.ints .i64 (bitList b))])] := by
 refine RO.intro Try.func194 rfl 21 rfl (le_ok rfl) fun w Z => ?_
 refine T.bnd 0 0 rfl rfl fun hb_0_0 => ?_
 simp only [D.size, List.length_map] at hb_0_0
 refine T.seq ?_
 refine T.region ?_
 refine TL.as (.one (.nil)) ?_
 refine TL.nil ?_
 refine T.seq ?_
 refine T.region ?_
 refine TL.c (Step.lit (e := 3) (z := 1) (by_ := 8) (xs := []) (pss := []) (es := []) (ss := []) (d := (.ints .i64 [])) rfl rfl (lt_ok rfl) (by kernel_rfl) rfl rfl .nil (by simp) (le_ok rfl) (le_ok rfl) rfl .nil rfl (by simp) (by simp) rfl trivial rfl rfl) ?_
 refine TL.as (.one (.row 5 [])) ?_
 refine TL.nil ?_
 refine T.seq ?_
 refine T.seq ?_
 refine T.region ?_
 refine TL.mv (pS b) ?_
 refine TL.c (Step.len (e := 5) (z := 1) (d := (.ints .u8 b)) rfl rfl (lt_ok rfl) (by kernel_rfl) rfl rfl) ?_
 refine TL.c (Step.bin (r := .int .i64 (8 * (b.length : Int))) rfl rfl (lt_ok rfl) rfl rfl (Bin.mul (a := 8) (b := (b.length : Int)) (by first | exact wrap_ok (by first | omega | (simp; omega)) (by first | omega | (simp; omega)) | rfl))) ?_
 refine TL.mv (pI 0) ?_
 refine TL.nil ?_
 refine T.block ?_
 refine T.loop (ι := Nat × (List Int)) (fun xx_ => { tm := [(0, (pS b)), (2, (.one (.nil))), (8, (pI (8 * (b.length : Int)))), (9, (pI ((xx_.1) : Int))), (3, (.one (.row 5 [])))], rows := [(5, (3, (.ints .i64 (xx_.2))))], boxes := [] }) (fun xx_ => (xx_.1) ≤ 8 * b.length ∧ (xx_.2) ++ bitsGo b (8 * b.length - (xx_.1)) (xx_.1) = bitList b ∧ (xx_.2).length ≤ (xx_.1)) (fun xx_ => 8 * b.length - (xx_.1)) (0, []) ?_ ?_ ?_
 · refine Env.le_mk ⟨rfl, rfl, rfl, ?_, rfl, trivial⟩ ⟨?_, trivial⟩ trivial <;> (first | rfl | (refine congrArg (fun x => some (_, D.ints .i64 x)) ?_; rfl) | (refine congrArg (fun n => PV.one (.d (.int .i64 n))) ?_; first | omega | (simp; done)))
 · (dsimp only; refine ⟨Nat.zero_le _, rfl, Nat.zero_le _⟩)
 intro xx_ hx
 obtain ⟨i, o⟩ := xx_
 try dsimp only at hx ⊢
 obtain ⟨hx1, hx2, hx3⟩ := hx
 refine T.seq ?_
 refine T.region ?_
 refine TL.b _ (Bin.lss (k := .i64) (a := (i : Int)) (b := (8 * (b.length : Int)))) ?_
 refine TL.nil ?_
 refine T.seq ?_
 refine T.ci rfl (fun h1 => ?_) (fun h1 => ?_)
 ·
  refine T.skip ?_
  refine T.seq ?_
  refine T.block ?_
  refine T.seq ?_
  refine T.region ?_
  refine TL.mv (pI (i : Int)) ?_
  refine TL.as (pI (i : Int)) ?_
  refine TL.nil ?_
  refine T.seq ?_
  refine T.region ?_
  refine TL.mv (pS b) ?_
  refine TL.mv (pI (i : Int)) ?_
  refine TL.c (Step.cl (xs := [.tmp 12, .tmp 13]) (ps := [(pS b), (pI (i : Int))]) (g := .func 197) false (.cons (.one (.d _)) (.cons (.one (.d _)) .nil)) (ok_impl_BitsHas b (i : Int) (by assumption) (by first | omega | assumption | (simp only [List.length_append] at *; omega)) (by first | omega | (have := hn_ (by first | assumption | simpa using ‹(!bitsOk b n) = false›); omega)))) ?_
  refine TL.nil ?_
  refine T.cond (b := bitHas b (i : Int)) rfl (fun h2 => ?_) (fun h2 => ?_)
  ·
   refine T.region ?_
   refine TL.mv (.one (.row 5 [])) ?_
   refine TL.mv (pI (i : Int)) ?_
   refine TL.c (Step.lit (e := 3) (z := 1) (by_ := 8) (xs := [.tmp 16]) (pss := [[cI (i : Int)]]) (es := [(.int .i64 (i : Int))]) (ss := []) (d := (.ints .i64 [(i : Int)])) rfl rfl (lt_ok rfl) (by kernel_rfl) rfl rfl (.cons rfl .nil) (by simp) (le_ok rfl) (le_ok rfl) rfl (.val rfl .nil) rfl (by simp) (by simp) rfl trivial rfl rfl) ?_
   refine TL.c (Step.append (e := 3) (z := 1) (by_ := 8) (d := (.ints .i64 o)) (dy := (.ints .i64 [(i : Int)])) (d' := (.ints .i64 (o ++ [(i : Int)]))) (ss := []) rfl rfl (lt_ok rfl) (by kernel_rfl) rfl rfl rfl (lt_ok rfl) rfl (.copy rfl rfl rfl (by simp [D.flat, D.val])) (by simp) rfl (by simp only [D.size, List.length_map]; first | omega | (simp only [List.length_append, List.length_cons, List.length_nil]; omega) | (simp; omega) | (simp only [List.length_append] at *; omega)) (by simp only [D.size, List.length_map]; first | omega | (simp only [List.length_append, List.length_cons, List.length_nil]; omega) | (simp; omega) | (simp only [List.length_append] at *; omega)) (by simp)) ?_
   refine TL.as (.one (.row 5 [])) ?_
   refine TL.nil ?_
   refine T.region ?_
   refine TL.c (Step.bin (r := .int .i64 ((i : Int) + 1)) rfl rfl (lt_ok rfl) rfl rfl (Bin.add (a := (i : Int)) (b := 1) (by first | exact wrap_ok (by first | omega | (simp; omega)) (by first | omega | (simp; omega)) | rfl))) ?_
   refine TL.mv (pI ((i : Int) + 1)) ?_
   refine TL.nil ?_
   refine ⟨(i + 1, o ++ [(i : Int)]), by (refine ⟨by omega, ?_, by simp only [List.length_append, List.length_cons, List.length_nil]; omega⟩; rw [← hx2, bitsGo_next b (n := 8 * b.length) (i := i) (by omega)]; first | (rw [if_pos (by assumption)]; simp only [List.append_assoc]; done) | (rw [if_neg (by simp [*])]; rfl)), by (dsimp only; omega), Env.le_mk ⟨rfl, rfl, rfl, ?_, rfl, trivial⟩ ⟨?_, trivial⟩ trivial⟩ <;> (first | rfl | (refine congrArg (fun x => some (_, D.ints .i64 x)) ?_; rfl) | (refine congrArg (fun n => PV.one (.d (.int .i64 n))) ?_; first | omega | (simp; done)))
  refine T.skip ?_
  refine T.region ?_
  refine TL.c (Step.bin (r := .int .i64 ((i : Int) + 1)) rfl rfl (lt_ok rfl) rfl rfl (Bin.add (a := (i : Int)) (b := 1) (by first | exact wrap_ok (by first | omega | (simp; omega)) (by first | omega | (simp; omega)) | rfl))) ?_
  refine TL.mv (pI ((i : Int) + 1)) ?_
  refine TL.nil ?_
  refine ⟨(i + 1, o), by (refine ⟨by omega, ?_, by simp only [List.length_append, List.length_cons, List.length_nil]; omega⟩; rw [← hx2, bitsGo_next b (n := 8 * b.length) (i := i) (by omega)]; first | (rw [if_pos (by assumption)]; simp only [List.append_assoc]; done) | (rw [if_neg (by simp [*])]; rfl)), by (dsimp only; omega), Env.le_mk ⟨rfl, rfl, rfl, ?_, rfl, trivial⟩ ⟨rfl, trivial⟩ trivial⟩ <;> (first | rfl | (refine congrArg (fun x => some (_, D.ints .i64 x)) ?_; rfl) | (refine congrArg (fun n => PV.one (.d (.int .i64 n))) ?_; first | omega | (simp; done)))
 refine T.exit ?_
 refine T.seq ?_
 refine T.region ?_
 refine TL.mv (.one (.row 5 [])) ?_
 refine TL.as (.one (.row 5 [])) ?_
 refine TL.nil ?_
 refine T.ret ?_
 refine ⟨[(false, [.row 5 []])], (.cons rfl .nil), rfl, [5], (RetC.o ?_ .nil)⟩ <;> ((congr 1; rw [← hx2, bitsGo_end b (by omega), List.append_nil]))
theorem ok_impl_BitsOk (b : List Int) (n : Int) (h0_ : U8s b) (h1_ : b.length ≤ 1099511627776) : RO Try.prog 174 [.one (.ints .u8 b), .one (.int .i64 n)] [(false, [.rd (.bool (bitsOk b n))])] := by
 refine RO.intro Try.func174 rfl 28 rfl (le_ok rfl) fun w Z => ?_
 refine T.bnd 0 0 rfl rfl fun hb_0_0 => ?_
 simp only [D.size, List.length_map] at hb_0_0
 refine T.seq ?_
 refine T.region ?_
 refine TL.as (pB false) ?_
 refine TL.nil ?_
 refine T.seq ?_
 refine T.seq ?_
 refine T.region ?_
 refine TL.mv (pI n) ?_
 refine TL.c (Step.cl (xs := [.tmp 7, .const (.int .i64 1), .const (.int .i64 10)]) (ps := [(pI n), (pI 1), (pI 10)]) (g := .func 117) false (.cons (.one (.d _)) (.cons (.one (.d _)) (.cons (.one (.d _)) .nil))) (ok_impl_within n 1 10)) ?_
 refine TL.c (Step.not (b := (decide (1 ≤ n ∧ n ≤ 10))) rfl rfl (lt_ok rfl) rfl) ?_
 refine TL.mv (pB (!(decide (1 ≤ n ∧ n ≤ 10)))) ?_
 rcases Bool.eq_false_or_eq_true (!(decide (1 ≤ n ∧ n ≤ 10))) with hb1 | hb1
 ·
  refine TL.known 10 hb1 rfl ?_
  have hb1' := hb1
  replace hb1' : (decide (1 ≤ n ∧ n ≤ 10)) = false := by simpa only [Bool.not_eq_true', Bool.not_eq_false'] using hb1'
  replace hb1' := of_decide_eq_false hb1'
  refine TL.gf 10 ?_
  refine TL.gf 10 ?_
  refine TL.gf 10 ?_
  refine TL.gf 10 ?_
  refine TL.gf 10 ?_
  refine TL.pk true (pB true) ?_
  refine TL.nil ?_
  refine T.ct ?_
  refine T.seq ?_
  refine T.region ?_
  refine TL.as (pB false) ?_
  refine TL.nil ?_
  refine T.ret ?_
  refine ⟨[(false, [.d (.bool false)])], (.cons rfl .nil), rfl, [], (RetC.r ?_ .nil)⟩ <;> (first | (congr 1; symm; simp only [bitsOk, *, Bool.and_true, Bool.true_and, Bool.and_false, Bool.false_and, decide_true, decide_false, and_true, true_and, and_self, and_false, false_and, Bool.and_self, not_true, not_false, Bool.not_true, Bool.not_false, ge_iff_le, gt_iff_lt, if_true, if_false, Bool.false_eq_true, ite_true, ite_false, reduceIte]; done) | (congr 1; symm; unfold bitsOk; rw [decide_eq_false (p := (1 ≤ n ∧ n ≤ 10)) (by omega)]; rfl) | (congr 1; symm; unfold bitsOk; rw [decide_eq_false (p := ((b.length : Int) = bitsSize n)) (by omega)]; simp; done) | (congr 1; symm; unfold bitsOk; rw [all_no (i := i) (by omega) (by omega)]; simp; done) | (congr 1; symm; unfold bitsOk; rw [List.take_of_length_le (by omega)] at hx2; rw [hx2, decide_eq_true (p := (1 ≤ n ∧ n ≤ 10)) (by omega), decide_eq_true (p := ((b.length : Int) = bitsSize n)) (by omega)]; rfl))
 refine TL.known 10 hb1 rfl ?_
 have hb1' := hb1
 replace hb1' : (decide (1 ≤ n ∧ n ≤ 10)) = true := by simpa only [Bool.not_eq_true', Bool.not_eq_false'] using hb1'
 replace hb1' := of_decide_eq_true hb1'
 refine TL.gm 10 (pS b) ?_
 refine TL.gy 10 (Step.len (e := 5) (z := 1) (d := (.ints .u8 b)) rfl rfl (lt_ok rfl) (by kernel_rfl) rfl rfl) ?_
 refine TL.gm 10 (pI n) ?_
 refine TL.gy 10 (Step.cl (xs := [.tmp 13]) (ps := [(pI n)]) (g := .func 182) false (.cons (.one (.d _)) .nil) (ok_impl_BitsSize n (by first | omega | assumption | (simp only [List.length_append] at *; omega)))) ?_
 refine TL.gy 10 (Step.bin rfl rfl (lt_ok rfl) rfl rfl (Bin.neq (k := .i64) (a := (b.length : Int)) (b := (bitsSize n)))) ?_
 refine TL.pk false (pB (decide ((b.length : Int) ≠ (bitsSize n)))) ?_
 refine TL.nil ?_
 refine T.ci rfl (fun h2 => ?_) (fun h2 => ?_)
 ·
  refine T.seq ?_
  refine T.region ?_
  refine TL.as (pB false) ?_
  refine TL.nil ?_
  refine T.ret ?_
  refine ⟨[(false, [.d (.bool false)])], (.cons rfl .nil), rfl, [], (RetC.r ?_ .nil)⟩ <;> (first | (congr 1; symm; simp only [bitsOk, *, Bool.and_true, Bool.true_and, Bool.and_false, Bool.false_and, decide_true, decide_false, and_true, true_and, and_self, and_false, false_and, Bool.and_self, not_true, not_false, Bool.not_true, Bool.not_false, ge_iff_le, gt_iff_lt, if_true, if_false, Bool.false_eq_true, ite_true, ite_false, reduceIte]; done) | (congr 1; symm; unfold bitsOk; rw [decide_eq_false (p := (1 ≤ n ∧ n ≤ 10)) (by omega)]; rfl) | (congr 1; symm; unfold bitsOk; rw [decide_eq_false (p := ((b.length : Int) = bitsSize n)) (by omega)]; simp; done) | (congr 1; symm; unfold bitsOk; rw [all_no (i := i) (by omega) (by omega)]; simp; done) | (congr 1; symm; unfold bitsOk; rw [List.take_of_length_le (by omega)] at hx2; rw [hx2, decide_eq_true (p := (1 ≤ n ∧ n ≤ 10)) (by omega), decide_eq_true (p := ((b.length : Int) = bitsSize n)) (by omega)]; rfl))
 refine T.skip ?_
 refine T.seq ?_
 refine T.seq ?_
 refine T.region ?_
 refine TL.mv (pS b) ?_
 have nn3 := bitList_len b
 refine TL.c (Step.cl (xs := [.tmp 17]) (ps := [(pS b)]) (g := .func 194) false (.cons (.one (.d _)) .nil) (ok_impl_BitsList b (by assumption) (by first | omega | assumption | (simp only [List.length_append] at *; omega)))) ?_
 refine TL.c (Step.len (e := 3) (z := 1) (d := (.ints .i64 (bitList b))) rfl rfl (lt_ok rfl) (by kernel_rfl) rfl rfl) ?_
 refine TL.mv (pI 0) ?_
 refine TL.nil ?_
 refine T.block ?_
 refine T.loop (ι := Nat) (fun xx_ => { tm := [(1, (pI n)), (18, (.one (.row 1018 []))), (19, (pI ((bitList b).length : Int))), (20, (pI (xx_ : Int)))], rows := [(1018, (3, (.ints .i64 (bitList b))))], boxes := [] }) (fun xx_ => xx_ ≤ (bitList b).length ∧ ((bitList b).take xx_).all (fun x => decide (x < n)) = true) (fun xx_ => (bitList b).length - xx_) 0 ?_ ?_ ?_
 · refine Env.le_mk ⟨rfl, rfl, rfl, ?_, trivial⟩ ⟨rfl, trivial⟩ trivial <;> (first | rfl | (simp; done) | (congr 3; omega))
 · (refine ⟨Nat.zero_le _, by rw [List.take_zero]; rfl⟩)
 intro i hx
 try dsimp only at hx ⊢
 obtain ⟨hx1, hx2⟩ := hx
 refine T.seq ?_
 refine T.region ?_
 refine TL.b _ (Bin.lss (k := .i64) (a := (i : Int)) (b := ((bitList b).length : Int))) ?_
 refine TL.nil ?_
 refine T.seq ?_
 refine T.ci rfl (fun h4 => ?_) (fun h4 => ?_)
 ·
  refine T.skip ?_
  refine T.seq ?_
  refine T.block ?_
  refine T.seq ?_
  refine T.region ?_
  refine TL.c (Step.index_row (e := 3) (z := 1) (i := (i : Int)) rfl rfl (lt_ok rfl) (by kernel_rfl) rfl rfl rfl rfl (lt_ok rfl) rfl (by first | omega | (simp; omega)) (by simp only [D.at_, D.cell, D.size]; first | omega | (simp; omega))) ?_
  refine TL.c (Step.load_row (c := cI ((bitList b).getD i 0)) rfl rfl (lt_ok rfl) (by kernel_rfl) rfl rfl rfl) ?_
  refine TL.as (pI ((bitList b).getD i 0)) ?_
  refine TL.nil ?_
  refine T.seq ?_
  refine T.region ?_
  refine TL.mv (pI ((bitList b).getD i 0)) ?_
  refine TL.mv (pI n) ?_
  refine TL.b _ (Bin.geq (k := .i64) (a := ((bitList b).getD i 0)) (b := n)) ?_
  refine TL.nil ?_
  refine T.ci rfl (fun h5 => ?_) (fun h5 => ?_)
  ·
   refine T.seq ?_
   refine T.region ?_
   refine TL.as (pB false) ?_
   refine TL.nil ?_
   refine T.ret ?_
   refine ⟨[(false, [.d (.bool false)])], (.cons rfl .nil), rfl, [], (RetC.r ?_ .nil)⟩ <;> (first | (congr 1; symm; simp only [bitsOk, *, Bool.and_true, Bool.true_and, Bool.and_false, Bool.false_and, decide_true, decide_false, and_true, true_and, and_self, and_false, false_and, Bool.and_self, not_true, not_false, Bool.not_true, Bool.not_false, ge_iff_le, gt_iff_lt, if_true, if_false, Bool.false_eq_true, ite_true, ite_false, reduceIte]; done) | (congr 1; symm; unfold bitsOk; rw [decide_eq_false (p := (1 ≤ n ∧ n ≤ 10)) (by omega)]; rfl) | (congr 1; symm; unfold bitsOk; rw [decide_eq_false (p := ((b.length : Int) = bitsSize n)) (by omega)]; simp; done) | (congr 1; symm; unfold bitsOk; rw [all_no (i := i) (by omega) (by omega)]; simp; done) | (congr 1; symm; unfold bitsOk; rw [List.take_of_length_le (by omega)] at hx2; rw [hx2, decide_eq_true (p := (1 ≤ n ∧ n ≤ 10)) (by omega), decide_eq_true (p := ((b.length : Int) = bitsSize n)) (by omega)]; rfl))
  refine T.skip ?_
  refine T.region ?_
  refine TL.c (Step.bin (r := .int .i64 ((i : Int) + 1)) rfl rfl (lt_ok rfl) rfl rfl (Bin.add (a := (i : Int)) (b := 1) (by first | exact wrap_ok (by first | omega | (simp; omega)) (by first | omega | (simp; omega)) | rfl))) ?_
  refine TL.mv (pI ((i : Int) + 1)) ?_
  refine TL.nil ?_
  refine ⟨i + 1, by (refine ⟨by omega, all_step (by omega) hx2 (by omega)⟩), by first | omega | (dsimp only; omega), Env.le_mk ⟨rfl, rfl, rfl, ?_, trivial⟩ ⟨rfl, trivial⟩ trivial⟩ <;> (first | rfl | (simp; done) | (congr 3; omega))
 refine T.exit ?_
 refine T.seq ?_
 refine T.region ?_
 refine TL.as (pB true) ?_
 refine TL.nil ?_
 refine T.ret ?_
 refine ⟨[(false, [.d (.bool true)])], (.cons rfl .nil), rfl, [], (RetC.r ?_ .nil)⟩ <;> (first | (congr 1; symm; simp only [bitsOk, *, Bool.and_true, Bool.true_and, Bool.and_false, Bool.false_and, decide_true, decide_false, and_true, true_and, and_self, and_false, false_and, Bool.and_self, not_true, not_false, Bool.not_true, Bool.not_false, ge_iff_le, gt_iff_lt, if_true, if_false, Bool.false_eq_true, ite_true, ite_false, reduceIte]; done) | (congr 1; symm; unfold bitsOk; rw [decide_eq_false (p := (1 ≤ n ∧ n ≤ 10)) (by omega)]; rfl) | (congr 1; symm; unfold bitsOk; rw [decide_eq_false (p := ((b.length : Int) = bitsSize n)) (by omega)]; simp; done) | (congr 1; symm; unfold bitsOk; rw [all_no (i := i) (by omega) (by omega)]; simp; done) | (congr 1; symm; unfold bitsOk; rw [List.take_of_length_le (by omega)] at hx2; rw [hx2, decide_eq_true (p := (1 ≤ n ∧ n ≤ 10)) (by omega), decide_eq_true (p := ((b.length : Int) = bitsSize n)) (by omega)]; rfl))
theorem ok_impl_GetBits (b : List Int) (a : Int) (n : Int) (h0_ : U8s b) (h1_ : b.length ≤ 1048576) : RO Try.prog 138 [.one (.ints .u8 b), .one (.int .i64 a), .one (.int .i64 n)] [(false, [.own 5 (.ints .u8 (getBits b a n).1)]), (false, [.rd (.int .i64 (getBits b a n).2.1)]), (false, [.rd (.int .i64 (getBits b a n).2.2)])] := by
 refine RO.intro Try.func138 rfl 33 rfl (le_ok rfl) fun w Z => ?_
 refine T.bnd 0 0 rfl rfl fun hb_0_0 => ?_
 simp only [D.size, List.length_map] at hb_0_0
 have hu_ := getRaw_u8 h0_ a (bitsSize n)
 refine T.seq ?_
 refine T.region ?_
 refine TL.as (.one (.nil)) ?_
 refine TL.as (pI 0) ?_
 refine TL.as (pI 0) ?_
 refine TL.nil ?_
 refine T.seq ?_
 refine T.seq ?_
 refine T.region ?_
 refine TL.mv (pI n) ?_
 refine TL.c (Step.cl (xs := [.tmp 12, .const (.int .i64 1), .const (.int .i64 10)]) (ps := [(pI n), (pI 1), (pI 10)]) (g := .func 117) false (.cons (.one (.d _)) (.cons (.one (.d _)) (.cons (.one (.d _)) .nil))) (ok_impl_within n 1 10)) ?_
 refine TL.c (Step.not (b := (decide (1 ≤ n ∧ n ≤ 10))) rfl rfl (lt_ok rfl) rfl) ?_
 refine TL.nil ?_
 refine T.cni rfl (fun h1 => ?_) (fun h1 => ?_)
 ·
  refine T.seq ?_
  refine T.region ?_
  refine TL.as (.one (.nil)) ?_
  refine TL.as (pI 0) ?_
  refine TL.as (pI 5) ?_
  refine TL.nil ?_
  refine T.ret ?_
  refine ⟨[(false, [.nil]), (false, [cI 0]), (false, [cI 5])], (.cons rfl (.cons rfl (.cons rfl .nil))), rfl, [], (RetC.nn ?_ (RetC.r ?_ (RetC.r ?_ .nil)))⟩ <;> ((first | (congr 1; first | (rw [getBits_val (by omega)]; first | done | rfl) | (rw [getBits_er (by omega) (by omega)]; first | done | rfl) | (rw [getBits_pad (by omega) (by omega) (by assumption)]; first | done | rfl) | (rw [getBits_ok (by omega) (by omega) (by assumption)]; first | done | rfl)) | (simp only [D.size]; first | (rw [getBits_val (by omega)]; first | done | rfl) | (rw [getBits_er (by omega) (by omega)]; first | done | rfl) | (rw [getBits_pad (by omega) (by omega) (by assumption)]; first | done | rfl) | (rw [getBits_ok (by omega) (by omega) (by assumption)]; first | done | rfl))))
 refine T.skip ?_
 refine T.seq ?_
 refine T.region ?_
 refine TL.mv (pS b) ?_
 refine TL.mv (pI a) ?_
 refine TL.mv (pI n) ?_
 refine TL.c (Step.cl (xs := [.tmp 18]) (ps := [(pI n)]) (g := .func 182) false (.cons (.one (.d _)) .nil) (ok_impl_BitsSize n (by first | omega | assumption | (simp only [List.length_append] at *; omega)))) ?_
 have nn2 := getRaw_bd b a (bitsSize n)
 refine TL.c (Step.cl (xs := [.tmp 16, .tmp 17, .tmp 19]) (ps := [(pS b), (pI a), (pI (bitsSize n))]) (g := .func 181) false (.cons (.one (.d _)) (.cons (.one (.d _)) (.cons (.one (.d _)) .nil))) (ok_impl_GetRaw b a (bitsSize n) (by first | omega | assumption | (simp only [List.length_append] at *; omega)))) ?_
 refine TL.mv (.tup [(false, [.row 1020 []]), (false, [cI (getRaw b a (bitsSize n)).2.1]), (false, [cI (getRaw b a (bitsSize n)).2.2])]) ?_
 refine TL.c (Step.extract (p := (.one (.row 1020 []))) rfl rfl (lt_ok rfl) rfl rfl) ?_
 refine TL.c (Step.extract (p := (pI (getRaw b a (bitsSize n)).2.1)) rfl rfl (lt_ok rfl) rfl rfl) ?_
 refine TL.c (Step.extract (p := (pI (getRaw b a (bitsSize n)).2.2)) rfl rfl (lt_ok rfl) rfl rfl) ?_
 refine TL.as (.one (.row 1020 [])) ?_
 refine TL.as (pI (getRaw b a (bitsSize n)).2.1) ?_
 refine TL.as (pI (getRaw b a (bitsSize n)).2.2) ?_
 refine TL.nil ?_
 refine T.seq ?_
 refine T.seq ?_
 refine T.region ?_
 refine TL.mv (pI (getRaw b a (bitsSize n)).2.2) ?_
 refine TL.b _ (Bin.neq (k := .i64) (a := (getRaw b a (bitsSize n)).2.2) (b := 0)) ?_
 refine TL.nil ?_
 refine T.ci rfl (fun h3 => ?_) (fun h3 => ?_)
 ·
  refine T.seq ?_
  refine T.region ?_
  refine TL.mv (pI (getRaw b a (bitsSize n)).2.2) ?_
  refine TL.as (.one (.nil)) ?_
  refine TL.as (pI 0) ?_
  refine TL.as (pI (getRaw b a (bitsSize n)).2.2) ?_
  refine TL.nil ?_
  refine T.ret ?_
  refine ⟨[(false, [.nil]), (false, [cI 0]), (false, [cI (getRaw b a (bitsSize n)).2.2])], (.cons rfl (.cons rfl (.cons rfl .nil))), rfl, [], (RetC.nn ?_ (RetC.r ?_ (RetC.r ?_ .nil)))⟩ <;> ((first | (congr 1; first | (rw [getBits_val (by omega)]; first | done | rfl) | (rw [getBits_er (by omega) (by omega)]; first | done | rfl) | (rw [getBits_pad (by omega) (by omega) (by assumption)]; first | done | rfl) | (rw [getBits_ok (by omega) (by omega) (by assumption)]; first | done | rfl)) | (simp only [D.size]; first | (rw [getBits_val (by omega)]; first | done | rfl) | (rw [getBits_er (by omega) (by omega)]; first | done | rfl) | (rw [getBits_pad (by omega) (by omega) (by assumption)]; first | done | rfl) | (rw [getBits_ok (by omega) (by omega) (by assumption)]; first | done | rfl))))
 refine T.skip ?_
 refine T.seq ?_
 refine T.seq ?_
 refine T.region ?_
 refine TL.mv (.one (.row 1020 [])) ?_
 refine TL.mv (pI n) ?_
 refine TL.c (Step.cl (xs := [.tmp 27, .tmp 28]) (ps := [(.one (.row 1020 [])), (pI n)]) (g := .func 174) false (.cons (.one (.row rfl rfl rfl rfl)) (.cons (.one (.d _)) .nil)) (ok_impl_BitsOk (getRaw b a (bitsSize n)).1 n (by assumption) (by first | omega | assumption | (simp only [List.length_append] at *; omega)))) ?_
 refine TL.c (Step.not (b := (bitsOk (getRaw b a (bitsSize n)).1 n)) rfl rfl (lt_ok rfl) rfl) ?_
 refine TL.nil ?_
 refine T.cn rfl (fun h4 => ?_) (fun h4 => ?_)
 ·
  refine T.seq ?_
  refine T.region ?_
  refine TL.as (.one (.nil)) ?_
  refine TL.as (pI 0) ?_
  refine TL.as (pI 4) ?_
  refine TL.nil ?_
  refine T.ret ?_
  refine ⟨[(false, [.nil]), (false, [cI 0]), (false, [cI 4])], (.cons rfl (.cons rfl (.cons rfl .nil))), rfl, [], (RetC.nn ?_ (RetC.r ?_ (RetC.r ?_ .nil)))⟩ <;> ((first | (congr 1; first | (rw [getBits_val (by omega)]; first | done | rfl) | (rw [getBits_er (by omega) (by omega)]; first | done | rfl) | (rw [getBits_pad (by omega) (by omega) (by assumption)]; first | done | rfl) | (rw [getBits_ok (by omega) (by omega) (by assumption)]; first | done | rfl)) | (simp only [D.size]; first | (rw [getBits_val (by omega)]; first | done | rfl) | (rw [getBits_er (by omega) (by omega)]; first | done | rfl) | (rw [getBits_pad (by omega) (by omega) (by assumption)]; first | done | rfl) | (rw [getBits_ok (by omega) (by omega) (by assumption)]; first | done | rfl))))
 refine T.skip ?_
 refine T.seq ?_
 refine T.region ?_
 refine TL.mv (.one (.row 1020 [])) ?_
 refine TL.mv (pI (getRaw b a (bitsSize n)).2.1) ?_
 refine TL.as (.one (.row 1020 [])) ?_
 refine TL.as (pI (getRaw b a (bitsSize n)).2.1) ?_
 refine TL.as (pI 0) ?_
 refine TL.nil ?_
 refine T.ret ?_
 refine ⟨[(false, [.row 1020 []]), (false, [cI (getRaw b a (bitsSize n)).2.1]), (false, [cI 0])], (.cons rfl (.cons rfl (.cons rfl .nil))), rfl, [1020], (RetC.o ?_ (RetC.r ?_ (RetC.r ?_ .nil)))⟩ <;> ((first | (congr 1; first | (rw [getBits_val (by omega)]; first | done | rfl) | (rw [getBits_er (by omega) (by omega)]; first | done | rfl) | (rw [getBits_pad (by omega) (by omega) (by assumption)]; first | done | rfl) | (rw [getBits_ok (by omega) (by omega) (by assumption)]; first | done | rfl)) | (simp only [D.size]; first | (rw [getBits_val (by omega)]; first | done | rfl) | (rw [getBits_er (by omega) (by omega)]; first | done | rfl) | (rw [getBits_pad (by omega) (by omega) (by assumption)]; first | done | rfl) | (rw [getBits_ok (by omega) (by omega) (by assumption)]; first | done | rfl))))
theorem ok_math_bits_OnesCount8 (x : Int) (h0_ : 0 ≤ x ∧ x ≤ 255) : RO Try.prog 183 [.one (.int .u8 x)] [(false, [.rd (.int .i64 (ones x))])] := by
 refine RO.intro Try.func183 rfl 6 rfl (le_ok rfl) fun w Z => ?_
 have ho_ := ones_bd x
 refine T.seq ?_
 refine T.region ?_
 refine TL.as (pI 0) ?_
 refine TL.nil ?_
 refine T.seq ?_
 refine T.region ?_
 refine TL.mv (.one (.d (.int .u8 x))) ?_
 refine TL.c (Step.index_str (c := (ones x)) rfl rfl (lt_ok rfl) (by kernel_rfl) rfl rfl (by first | omega | (simp; omega)) (by obtain ⟨n, hn⟩ : ∃ n : Fin 256, x = ((n.val : Nat) : Int) := ⟨⟨x.toNat, by omega⟩, by simp only; omega⟩; subst hn; clear h0_ ho_; revert n; decide +kernel)) ?_
 refine TL.c (Step.conv (c := (ones x)) rfl rfl (lt_ok rfl) (by kernel_rfl) (by kernel_rfl) rfl (wrap_ok (by first | omega | (simp; omega)) (by first | omega | (simp; omega)))) ?_
 refine TL.as (pI (ones x)) ?_
 refine TL.nil ?_
 refine T.ret ?_
 exact ⟨[(false, [.d (.int .i64 (ones x))])], (.cons rfl .nil), rfl, [], (RetC.rd' rfl .nil)⟩
theorem ok_impl_BitsCount (b : List Int) (h0_ : U8s b) (h1_ : b.length ≤ 1099511627776) : RO Try.prog 139 [.one (.ints .u8 b)] [(false, [.rd (.int .i64 ((bitList b).length : Int))])] := by
 refine RO.intro Try.func139 rfl 18 rfl (le_ok rfl) fun w Z => ?_
 refine T.bnd 0 0 rfl rfl fun hb_0_0 => ?_
 simp only [D.size, List.length_map] at hb_0_0
 refine T.seq ?_
 refine T.region ?_
 refine TL.as (pI 0) ?_
 refine TL.nil ?_
 refine T.seq ?_
 refine T.region ?_
 refine TL.as (pI 0) ?_
 refine TL.nil ?_
 refine T.seq ?_
 refine T.seq ?_
 refine T.region ?_
 refine TL.mv (pS b) ?_
 refine TL.c (Step.len (e := 5) (z := 1) (d := (.ints .u8 b)) rfl rfl (lt_ok rfl) (by kernel_rfl) rfl rfl) ?_
 refine TL.mv (pI 0) ?_
 refine TL.nil ?_
 refine T.block ?_
 refine T.loop (ι := Nat × Int) (fun xx_ => { tm := [(2, (pI 0)), (6, (pS b)), (7, (pI (b.length : Int))), (8, (pI ((xx_.1) : Int))), (3, (pI (xx_.2)))], rows := [], boxes := [] }) (fun xx_ => (xx_.1) ≤ b.length ∧ 0 ≤ (xx_.2) ∧ (xx_.2) ≤ 8 * (xx_.1) ∧ (xx_.2) + onesSum (b.drop (xx_.1)) = ((bitList b).length : Int)) (fun xx_ => b.length - (xx_.1)) (0, 0) ?_ ?_ ?_
 · refine Env.le_mk ⟨rfl, rfl, rfl, ?_, ?_, trivial⟩ trivial trivial <;> (first | rfl | (refine congrArg (fun n => PV.one (.d (.int .i64 n))) ?_; first | omega | (simp; done)))
 · (dsimp only; refine ⟨Nat.zero_le _, by omega, by omega, by rw [List.drop_zero, onesSum_all]; omega⟩)
 intro xx_ hx
 obtain ⟨i, c⟩ := xx_
 try dsimp only at hx ⊢
 obtain ⟨hx1, hx2, hx3, hx4⟩ := hx
 have hob_ := ones_bd (b.getD i 0)
 refine T.seq ?_
 refine T.region ?_
 refine TL.b _ (Bin.lss (k := .i64) (a := (i : Int)) (b := (b.length : Int))) ?_
 refine TL.nil ?_
 refine T.seq ?_
 refine T.ci rfl (fun h1 => ?_) (fun h1 => ?_)
 ·
  refine T.skip ?_
  refine T.seq ?_
  refine T.block ?_
  refine T.seq ?_
  refine T.region ?_
  refine TL.c (Step.index (e := 5) (z := 1) (i := (i : Int)) rfl rfl (lt_ok rfl) (by kernel_rfl) rfl rfl rfl (lt_ok rfl) rfl (by first | omega | (simp; omega)) (by simp only [D.size]; first | omega | (simp; omega))) ?_
  refine TL.c (Step.load (e := (.int .u8 (b.getD i 0))) rfl rfl (lt_ok rfl) (by kernel_rfl) rfl rfl) ?_
  refine TL.as (.one (.d (.int .u8 (b.getD i 0)))) ?_
  refine TL.nil ?_
  refine T.region ?_
  refine TL.mv (pI c) ?_
  refine TL.mv (.one (.d (.int .u8 (b.getD i 0)))) ?_
  have nn2 := ones_bd (b.getD i 0)
  refine TL.c (Step.cl (xs := [.tmp 13]) (ps := [(.one (.d (.int .u8 (b.getD i 0))))]) (g := .func 183) false (.cons (.one (.d _)) .nil) (ok_math_bits_OnesCount8 (b.getD i 0) (by first | assumption | exact getD_u8 (by assumption) _ | omega))) ?_
  refine TL.c (Step.bin (r := .int .i64 (c + (ones (b.getD i 0)))) rfl rfl (lt_ok rfl) rfl rfl (Bin.add (a := c) (b := (ones (b.getD i 0))) (by first | exact wrap_ok (by first | omega | (simp; omega)) (by first | omega | (simp; omega)) | rfl))) ?_
  refine TL.as (pI (c + (ones (b.getD i 0)))) ?_
  refine TL.nil ?_
  refine T.region ?_
  refine TL.c (Step.bin (r := .int .i64 ((i : Int) + 1)) rfl rfl (lt_ok rfl) rfl rfl (Bin.add (a := (i : Int)) (b := 1) (by first | exact wrap_ok (by first | omega | (simp; omega)) (by first | omega | (simp; omega)) | rfl))) ?_
  refine TL.mv (pI ((i : Int) + 1)) ?_
  refine TL.nil ?_
  refine ⟨(i + 1, c + (ones (b.getD i 0))), by (try dsimp only); (refine ⟨by omega, by omega, by omega, ?_⟩; rw [← hx4, onesSum_drop b (i := i) (by omega)]; omega), by (dsimp only; omega), Env.le_mk ⟨rfl, rfl, rfl, ?_, ?_, trivial⟩ trivial trivial⟩ <;> (first | rfl | (refine congrArg (fun n => PV.one (.d (.int .i64 n))) ?_; first | omega | (simp; done)))
 refine T.exit ?_
 refine T.seq ?_
 refine T.region ?_
 refine TL.mv (pI c) ?_
 refine TL.as (pI c) ?_
 refine TL.nil ?_
 refine T.ret ?_
 refine ⟨[(false, [cI c])], (.cons rfl .nil), rfl, [], (RetC.r ?_ .nil)⟩ <;> ((congr 1; rw [← hx4, List.drop_of_length_le (by omega)]; simp [onesSum]))
theorem ok_impl_readQc (b : List Int) (s : SRS) (l : SLimits) (h0_ : U8s b) (h1_ : b.length ≤ 1048576) : BX Try.prog 89 [.rd (.agg [(.int .i64 l.f0), (.int .i64 l.f1), (.int .i64 l.f2), (.int .i64 l.f3), (.int .i64 l.f4)]), .bx] 144 [.rd (.ints .u8 b), .rd (.int .i64 s.f0), .rd (.int .i64 s.f1)] [.rd (.ints .u8 b), .rd (.int .i64 (rdQc l b s).1.f0), .rd (.int .i64 (rdQc l b s).1.f1)] [(true, [.rd (.int .i64 (rdQc l b s).2.f0), .rd (.int .i64 (rdQc l b s).2.f1), .own 5 (.ints .u8 (rdQc l b s).2.f2), .own 5 (.ints .u8 (rdQc l b s).2.f3), .own 24 (.bss (rdQc l b s).2.f4)])] := by
 refine BX.intro Try.func89 rfl 55 rfl (le_ok rfl) (le_ok rfl) fun w Z IX pin hp => ?_
 refine T.seq ?_
 refine T.region ?_
 refine TL.c (Step.bx [cI l.f0, cI l.f1, cI l.f2, cI l.f3, cI l.f4]) ?_
 refine TL.c (Step.al [cI 0, cI 0, .nil, .nil, .nil]) ?_
 refine TL.nil ?_
 refine T.seq ?_
 refine T.region ?_
 refine TL.mv (.one (.ptr 800 0)) ?_
 have nn1 := @rdNum_bd b (by assumption) s
 refine TL.c (Step.callX2 (b := 800) (xs := [.tmp 6]) (ps := [(.one (.ptr 800 0))]) (bps := [cS b, cI s.f0, cI s.f1]) (ss := []) (g := .func 136) (ok_impl_reader__num b s (by assumption) (by first | omega | assumption | (simp only [List.length_append] at *; omega))) rfl rfl (lt_ok rfl) rfl (by kernel_rfl) rfl (.cons (.bx) .nil) rfl (.rd (.rd (.rd .nil))) rfl rfl (fun x hx => by have := hp x hx; omega) rfl) ?_
 refine TL.mv (.one (.ptr 800 0)) ?_
 have nn2 := @rdNum_bd b (by assumption) (rdNum b s).1
 refine TL.c (Step.callX2 (b := 800) (xs := [.tmp 8]) (ps := [(.one (.ptr 800 0))]) (bps := [cS b, cI (rdNum b s).1.f0, cI (rdNum b s).1.f1]) (ss := []) (g := .func 136) (ok_impl_reader__num b (rdNum b s).1 (by assumption) (by first | omega | assumption | (simp only [List.length_append] at *; omega))) rfl rfl (lt_ok rfl) rfl (by kernel_rfl) rfl (.cons (.bx) .nil) rfl (.rd (.rd (.rd .nil))) rfl rfl (fun x hx => by have := hp x hx; omega) rfl) ?_
 refine TL.mv (.one (.ptr 800 0)) ?_
 have nn3 := rdRaw_len b (rdNum b (rdNum b s).1).1 32
 refine TL.c (Step.callX2 (b := 800) (xs := [.tmp 10]) (ps := [(.one (.ptr 800 0))]) (bps := [cS b, cI (rdNum b (rdNum b s).1).1.f0, cI (rdNum b (rdNum b s).1).1.f1]) (ss := []) (g := .func 137) (ok_impl_reader__hash b (rdNum b (rdNum b s).1).1 (by assumption) (by first | omega | assumption | (simp only [List.length_append] at *; omega))) rfl rfl (lt_ok rfl) rfl (by kernel_rfl) rfl (.cons (.bx) .nil) rfl (.rd (.rd (.rd .nil))) rfl rfl (fun x hx => by have := hp x hx; omega) rfl) ?_
 refine TL.c (Step.build (zs := [.int .i64 0, .int .i64 0, .slice none 0 0, .slice none 0 0, .slice none 0 0]) (places := [(0, 1), (1, 1), (2, 1), (3, 1), (4, 1)]) (pss := [(0, [cI (rdNum b s).2]), (1, [cI (rdNum b (rdNum b s).1).2]), (2, [.row 4011 []])]) (ps' := [cI (rdNum b s).2, cI (rdNum b (rdNum b s).1).2, .row 4011 [], .nil, .nil]) rfl rfl (lt_ok rfl) (by kernel_rfl) (.cons ⟨rfl, rfl⟩ (.cons ⟨rfl, rfl⟩ (.cons ⟨rfl, rfl⟩ .nil))) rfl rfl rfl) ?_
 refine TL.c (Step.al [cI 0, cI 0, .nil, .nil, .nil]) ?_
 refine TL.c (Step.sb 5 [cI (rdNum b s).2, cI (rdNum b (rdNum b s).1).2, .row 4011 [], .nil, .nil]) ?_
 refine TL.nil ?_
 refine T.seq ?_
 refine T.seq ?_
 refine T.region ?_
 refine TL.mv (.one (.ptr 800 0)) ?_
 refine TL.c (Step.nilCheck rfl rfl (lt_ok rfl) rfl) ?_
 refine TL.c (Step.fd 2 1 true) ?_
 refine TL.c (Step.lb (.d (.int .i64 (rdRaw b (rdNum b (rdNum b s).1).1 32).1.f1))) ?_
 refine TL.b _ (Bin.neq (k := .i64) (a := (rdRaw b (rdNum b (rdNum b s).1).1 32).1.f1) (b := 0)) ?_
 refine TL.nil ?_
 refine T.ci rfl (fun h4 => ?_) (fun h4 => ?_)
 ·
  refine T.seq ?_
  refine T.region ?_
  refine TL.c (Step.lba 5 [cI (rdNum b s).2, cI (rdNum b (rdNum b s).1).2, .row 4011 [], .nil, .nil]) ?_
  refine TL.c (Step.sb 5 [cI (rdNum b s).2, cI (rdNum b (rdNum b s).1).2, .row 4011 [], .nil, .nil]) ?_
  refine TL.nil ?_
  refine T.ret ?_
  refine ⟨[cS b, cI (rdRaw b (rdNum b (rdNum b s).1).1 32).1.f0, cI (rdRaw b (rdNum b (rdNum b s).1).1 32).1.f1], [(true, [cI (rdNum b s).2, cI (rdNum b (rdNum b s).1).2, .row 4011 [], .nil, .nil])], rfl, rfl, (.cons rfl .nil), rfl, [4011], (RetC.r rfl (RetC.r ?_ (RetC.r ?_ (RetC.r ?_ (RetC.r ?_ (RetC.o ?_ (RetC.nn ?_ (RetC.nn ?_ .nil))))))))⟩ <;> (first | rfl | (congr 1; unfold rdQc; first | (rw [Nat.le_antisymm hx (by omega)]; first | (rw [rdQcA_yes (s := rdQc3 b s) (by show (rdRaw b (rdNum b (rdNum b s).1).1 32).1.f1 = 0; omega)]; first | done | rfl) | (rw [rdQcA_no (s := rdQc3 b s) (by assumption)]; first | done | rfl)) | (rw [rdQcA_yes (s := rdQc3 b s) (by show (rdRaw b (rdNum b (rdNum b s).1).1 32).1.f1 = 0; omega)]; first | done | rfl) | (rw [rdQcA_no (s := rdQc3 b s) (by assumption)]; first | done | rfl)) | (simp only [D.size, List.length_map]; unfold rdQc; first | (rw [Nat.le_antisymm hx (by omega)]; first | (rw [rdQcA_yes (s := rdQc3 b s) (by show (rdRaw b (rdNum b (rdNum b s).1).1 32).1.f1 = 0; omega)]; first | done | rfl) | (rw [rdQcA_no (s := rdQc3 b s) (by assumption)]; first | done | rfl)) | (rw [rdQcA_yes (s := rdQc3 b s) (by show (rdRaw b (rdNum b (rdNum b s).1).1 32).1.f1 = 0; omega)]; first | done | rfl) | (rw [rdQcA_no (s := rdQc3 b s) (by assumption)]; first | done | rfl)))
 refine T.skip ?_
 refine T.seq ?_
 have nn5 := @getBits_u8 b (by assumption) (rdRaw b (rdNum b (rdNum b s).1).1 32).1.f0 l.f0
 have nn6 := getBits_len b (rdRaw b (rdNum b (rdNum b s).1).1 32).1.f0 l.f0
 refine T.drawX [{ dst := some 20, pv := (.one (.ptr 800 0)) }, { dst := some 21, pv := (.one (.ptr 800 0)) }, { dst := some 22, pv := (.one (.ptr 800 0)) }, { dst := some 23, pv := (.one (.ptr 800 0)) }, { dst := some 24, pv := (.one (.ptr 800 0)) }, { dst := some 25, pv := (pS b) }, { dst := some 26, pv := (.one (.ptr 800 0)) }, { dst := some 27, pv := (.one (.ptr 800 0)) }, { dst := some 28, pv := (.one (.ptr 800 1)) }, { dst := some 29, pv := (pI (rdRaw b (rdNum b (rdNum b s).1).1 32).1.f0) }, { dst := some 30, pv := (.one (.ptr 2 0)) }, { dst := some 31, pv := (pI l.f0) }, { dst := some 32, pv := (.tup [(false, [.row 1032 []]), (false, [cI (getBits b (rdRaw b (rdNum b (rdNum b s).1).1 32).1.f0 l.f0).2.1]), (false, [cI (getBits b (rdRaw b (rdNum b (rdNum b s).1).1 32).1.f0 l.f0).2.2])]), rows := [(1032, (5, (.ints .u8 (getBits b (rdRaw b (rdNum b (rdNum b s).1).1 32).1.f0 l.f0).1)))] }, { dst := some 19, pv := (.tup [(false, [.row 1032 []]), (false, [cI (getBits b (rdRaw b (rdNum b (rdNum b s).1).1 32).1.f0 l.f0).2.1]), (false, [cI (getBits b (rdRaw b (rdNum b (rdNum b s).1).1 32).1.f0 l.f0).2.2])]) }, { dst := some 33, pv := (.one (.row 1032 [])) }, { dst := some 34, pv := (pI (getBits b (rdRaw b (rdNum b (rdNum b s).1).1 32).1.f0 l.f0).2.1) }, { dst := some 35, pv := (pI (getBits b (rdRaw b (rdNum b (rdNum b s).1).1 32).1.f0 l.f0).2.2) }, { dst := some 36, pv := (.one (.ptr 5 3)) }, { box := some (5, (38, [cI (rdNum b s).2, cI (rdNum b (rdNum b s).1).2, .row 4011 [], .row 1032 [], .nil])) }, { dst := some 37, pv := (.one (.ptr 800 0)) }, { dst := some 38, pv := (.one (.ptr 800 1)) }, { box := some (800, (144, [cS b, cI (getBits b (rdRaw b (rdNum b (rdNum b s).1).1 32).1.f0 l.f0).2.1, cI (rdRaw b (rdNum b (rdNum b s).1).1 32).1.f1])) }, { dst := some 39, pv := (.one (.ptr 800 0)) }, { dst := some 40, pv := (.one (.ptr 800 2)) }, { box := some (800, (144, [cS b, cI (getBits b (rdRaw b (rdNum b (rdNum b s).1).1 32).1.f0 l.f0).2.1, cI (getBits b (rdRaw b (rdNum b (rdNum b s).1).1 32).1.f0 l.f0).2.2])) }] (by kernel_rfl) (by kernel_rfl) ?_ ?_
 ·
  refine .cons (fun E hA_ => by have g1 : E.get 1 = (.one (.ptr 800 0)) := (hA_.get 1 (by kernel_rfl)).trans (by kernel_rfl); exact OpStep.plain rfl (Step.move (p := (.one (.ptr 800 0))) (t := 20) rfl rfl (by exact lt_ok rfl) (show Env.ev E (.tmp 1) = _ from g1.trans rfl))) ?_
  refine .cons (fun E hA_ => by have g1 : E.get 1 = (.one (.ptr 800 0)) := (hA_.get 1 (by kernel_rfl)).trans (by kernel_rfl); exact OpStep.plain rfl (Step.move (p := (.one (.ptr 800 0))) (t := 21) rfl rfl (by exact lt_ok rfl) (show Env.ev E (.tmp 1) = _ from g1.trans rfl))) ?_
  refine .cons (fun E hA_ => by have g1 : E.get 1 = (.one (.ptr 800 0)) := (hA_.get 1 (by kernel_rfl)).trans (by kernel_rfl); exact OpStep.plain rfl (Step.move (p := (.one (.ptr 800 0))) (t := 22) rfl rfl (by exact lt_ok rfl) (show Env.ev E (.tmp 1) = _ from g1.trans rfl))) ?_
  refine .cons (fun E hA_ => by have g22 : E.get 22 = (.one (.ptr 800 0)) := (hA_.get 22 (by kernel_rfl)).trans (by kernel_rfl); exact OpStep.plain rfl (Step.nilCheck (t := 23) rfl rfl (by exact lt_ok rfl) (show Env.ev E (.tmp 22) = _ from g22.trans rfl))) ?_
  refine .cons (fun E hA_ => by have g23 : E.get 23 = (.one (.ptr 800 0)) := (hA_.get 23 (by kernel_rfl)).trans (by kernel_rfl); exact OpStep.plain rfl (Step.fa (off := 0) (n := 1) (one := true) 0 24 (show Env.ev E (.tmp 23) = _ from g23.trans rfl))) ?_
  refine .cons (fun E hA_ => by have g24 : E.get 24 = (.one (.ptr 800 0)) := (hA_.get 24 (by kernel_rfl)).trans (by kernel_rfl); have b800 : E.box 800 = some (144, [cS b, cI (rdRaw b (rdNum b (rdNum b s).1).1 32).1.f0, cI (rdRaw b (rdNum b (rdNum b s).1).1 32).1.f1]) := (hA_.box 800 (by kernel_rfl)).trans (by kernel_rfl); exact OpStep.plain rfl (Step.load_box (c := cS b) (t := 25) rfl rfl (by exact lt_ok rfl) (by kernel_rfl) (show Env.ev E (.tmp 24) = _ from g24.trans rfl) b800 rfl)) ?_
  refine .cons (fun E hA_ => by have g1 : E.get 1 = (.one (.ptr 800 0)) := (hA_.get 1 (by kernel_rfl)).trans (by kernel_rfl); exact OpStep.plain rfl (Step.move (p := (.one (.ptr 800 0))) (t := 26) rfl rfl (by exact lt_ok rfl) (show Env.ev E (.tmp 1) = _ from g1.trans rfl))) ?_
  refine .cons (fun E hA_ => by have g26 : E.get 26 = (.one (.ptr 800 0)) := (hA_.get 26 (by kernel_rfl)).trans (by kernel_rfl); exact OpStep.plain rfl (Step.nilCheck (t := 27) rfl rfl (by exact lt_ok rfl) (show Env.ev E (.tmp 26) = _ from g26.trans rfl))) ?_
  refine .cons (fun E hA_ => by have g27 : E.get 27 = (.one (.ptr 800 0)) := (hA_.get 27 (by kernel_rfl)).trans (by kernel_rfl); exact OpStep.plain rfl (Step.fa (off := 1) (n := 1) (one := true) 0 28 (show Env.ev E (.tmp 27) = _ from g27.trans rfl))) ?_
  refine .cons (fun E hA_ => by have g28 : E.get 28 = (.one (.ptr 800 1)) := (hA_.get 28 (by kernel_rfl)).trans (by kernel_rfl); have b800 : E.box 800 = some (144, [cS b, cI (rdRaw b (rdNum b (rdNum b s).1).1 32).1.f0, cI (rdRaw b (rdNum b (rdNum b s).1).1 32).1.f1]) := (hA_.box 800 (by kernel_rfl)).trans (by kernel_rfl); exact OpStep.plain rfl (Step.load_box (c := cI (rdRaw b (rdNum b (rdNum b s).1).1 32).1.f0) (t := 29) rfl rfl (by exact lt_ok rfl) (by kernel_rfl) (show Env.ev E (.tmp 28) = _ from g28.trans rfl) b800 rfl)) ?_
  refine .cons (fun E hA_ => by have g2 : E.get 2 = (.one (.ptr 2 0)) := (hA_.get 2 (by kernel_rfl)).trans (by kernel_rfl); exact OpStep.plain rfl (Step.fa (off := 0) (n := 1) (one := true) 0 30 (show Env.ev E (.tmp 2) = _ from g2.trans rfl))) ?_
  refine .cons (fun E hA_ => by have g30 : E.get 30 = (.one (.ptr 2 0)) := (hA_.get 30 (by kernel_rfl)).trans (by kernel_rfl); have b2 : E.box 2 = some (34, [cI l.f0, cI l.f1, cI l.f2, cI l.f3, cI l.f4]) := (hA_.box 2 (by kernel_rfl)).trans (by kernel_rfl); exact OpStep.plain rfl (Step.load_box (c := cI l.f0) (t := 31) rfl rfl (by exact lt_ok rfl) (by kernel_rfl) (show Env.ev E (.tmp 30) = _ from g30.trans rfl) b2 rfl)) ?_
  refine .cons (fun E hA_ => by have g25 : E.get 25 = (pS b) := (hA_.get 25 (by kernel_rfl)).trans (by kernel_rfl); have g29 : E.get 29 = (pI (rdRaw b (rdNum b (rdNum b s).1).1 32).1.f0) := (hA_.get 29 (by kernel_rfl)).trans (by kernel_rfl); have g31 : E.get 31 = (pI l.f0) := (hA_.get 31 (by kernel_rfl)).trans (by kernel_rfl); exact OpStep.plain rfl (Step.call (f := 138) (xs := [.tmp 25, .tmp 29, .tmp 31]) (ps := [(pS b), (pI (rdRaw b (rdNum b (rdNum b s).1).1 32).1.f0), (pI l.f0)]) false (g := .func 138) (t := 32) rfl rfl (by exact lt_ok rfl) rfl (by kernel_rfl) (evs_cons (show Env.ev E (.tmp 25) = _ from g25.trans rfl) (evs_cons (show Env.ev E (.tmp 29) = _ from g29.trans rfl) (evs_cons (show Env.ev E (.tmp 31) = _ from g31.trans rfl) (rfl)))) (.cons (.one (.d _)) (.cons (.one (.d _)) (.cons (.one (.d _)) .nil))) (ok_impl_GetBits b (rdRaw b (rdNum b (rdNum b s).1).1 32).1.f0 l.f0 (by assumption) (by first | omega | assumption | (simp only [List.length_append] at *; omega))) (.inr rfl) (freshRows_of _ _ (fun x_ hx_ => hA_.fresh x_ (by exact hx_))) (fun x hx => by have := hp x hx; omega) rfl)) ?_
  refine .cons (fun E hA_ => by have g32 : E.get 32 = (.tup [(false, [.row 1032 []]), (false, [cI (getBits b (rdRaw b (rdNum b (rdNum b s).1).1 32).1.f0 l.f0).2.1]), (false, [cI (getBits b (rdRaw b (rdNum b (rdNum b s).1).1 32).1.f0 l.f0).2.2])]) := (hA_.get 32 (by kernel_rfl)).trans (by kernel_rfl); exact OpStep.plain rfl (Step.move (p := (.tup [(false, [.row 1032 []]), (false, [cI (getBits b (rdRaw b (rdNum b (rdNum b s).1).1 32).1.f0 l.f0).2.1]), (false, [cI (getBits b (rdRaw b (rdNum b (rdNum b s).1).1 32).1.f0 l.f0).2.2])])) (t := 19) rfl rfl (by exact lt_ok rfl) (show Env.ev E (.tmp 32) = _ from g32.trans rfl))) ?_
  refine .cons (fun E hA_ => by have g19 : E.get 19 = (.tup [(false, [.row 1032 []]), (false, [cI (getBits b (rdRaw b (rdNum b (rdNum b s).1).1 32).1.f0 l.f0).2.1]), (false, [cI (getBits b (rdRaw b (rdNum b (rdNum b s).1).1 32).1.f0 l.f0).2.2])]) := (hA_.get 19 (by kernel_rfl)).trans (by kernel_rfl); exact OpStep.plain rfl (Step.extract (p := (.one (.row 1032 []))) (t := 33) rfl rfl (by exact lt_ok rfl) (show Env.ev E (.tmp 19) = _ from g19.trans rfl) rfl)) ?_
  refine .cons (fun E hA_ => by have g19 : E.get 19 = (.tup [(false, [.row 1032 []]), (false, [cI (getBits b (rdRaw b (rdNum b (rdNum b s).1).1 32).1.f0 l.f0).2.1]), (false, [cI (getBits b (rdRaw b (rdNum b (rdNum b s).1).1 32).1.f0 l.f0).2.2])]) := (hA_.get 19 (by kernel_rfl)).trans (by kernel_rfl); exact OpStep.plain rfl (Step.extract (p := (pI (getBits b (rdRaw b (rdNum b (rdNum b s).1).1 32).1.f0 l.f0).2.1)) (t := 34) rfl rfl (by exact lt_ok rfl) (show Env.ev E (.tmp 19) = _ from g19.trans rfl) rfl)) ?_
  refine .cons (fun E hA_ => by have g19 : E.get 19 = (.tup [(false, [.row 1032 []]), (false, [cI (getBits b (rdRaw b (rdNum b (rdNum b s).1).1 32).1.f0 l.f0).2.1]), (false, [cI (getBits b (rdRaw b (rdNum b (rdNum b s).1).1 32).1.f0 l.f0).2.2])]) := (hA_.get 19 (by kernel_rfl)).trans (by kernel_rfl); exact OpStep.plain rfl (Step.extract (p := (pI (getBits b (rdRaw b (rdNum b (rdNum b s).1).1 32).1.f0 l.f0).2.2)) (t := 35) rfl rfl (by exact lt_ok rfl) (show Env.ev E (.tmp 19) = _ from g19.trans rfl) rfl)) ?_
  refine .cons (fun E hA_ => by have g5 : E.get 5 = (.one (.ptr 5 0)) := (hA_.get 5 (by kernel_rfl)).trans (by kernel_rfl); exact OpStep.plain rfl (Step.fa (off := 3) (n := 1) (one := true) 0 36 (show Env.ev E (.tmp 5) = _ from g5.trans rfl))) ?_
  refine .cons (fun E hA_ => by have g33 : E.get 33 = (.one (.row 1032 [])) := (hA_.get 33 (by kernel_rfl)).trans (by kernel_rfl); have g36 : E.get 36 = (.one (.ptr 5 3)) := (hA_.get 36 (by kernel_rfl)).trans (by kernel_rfl); have q1032 : E.row 1032 = some (5, (.ints .u8 (getBits b (rdRaw b (rdNum b (rdNum b s).1).1 32).1.f0 l.f0).1)) := (hA_.row 1032 (by kernel_rfl)).trans (by kernel_rfl); have b5 : E.box 5 = some (38, [cI (rdNum b s).2, cI (rdNum b (rdNum b s).1).2, .row 4011 [], .nil, .nil]) := (hA_.box 5 (by kernel_rfl)).trans (by kernel_rfl); exact OpStep.plain rfl (Step.store_box (n := 1) (p := (.one (.row 1032 []))) (qs := [.row 1032 []]) (ps' := [cI (rdNum b s).2, cI (rdNum b (rdNum b s).1).2, .row 4011 [], .row 1032 [], .nil]) rfl rfl (by kernel_rfl) (show Env.ev E (.tmp 36) = _ from g36.trans rfl) b5 (show Env.ev E (.tmp 33) = _ from g33.trans rfl) rfl rfl (by simp only [List.all_cons, List.all_nil, List.flatten_cons, List.flatten_nil, List.append_nil, List.cons_append, List.nil_append, Env.fine, q1032]; rfl) (le_ok rfl) rfl)) ?_
  refine .cons (fun E hA_ => by have g20 : E.get 20 = (.one (.ptr 800 0)) := (hA_.get 20 (by kernel_rfl)).trans (by kernel_rfl); exact OpStep.plain rfl (Step.nilCheck (t := 37) rfl rfl (by exact lt_ok rfl) (show Env.ev E (.tmp 20) = _ from g20.trans rfl))) ?_
  refine .cons (fun E hA_ => by have g37 : E.get 37 = (.one (.ptr 800 0)) := (hA_.get 37 (by kernel_rfl)).trans (by kernel_rfl); exact OpStep.plain rfl (Step.fa (off := 1) (n := 1) (one := true) 0 38 (show Env.ev E (.tmp 37) = _ from g37.trans rfl))) ?_
  refine .cons (fun E hA_ => by have g34 : E.get 34 = (pI (getBits b (rdRaw b (rdNum b (rdNum b s).1).1 32).1.f0 l.f0).2.1) := (hA_.get 34 (by kernel_rfl)).trans (by kernel_rfl); have g38 : E.get 38 = (.one (.ptr 800 1)) := (hA_.get 38 (by kernel_rfl)).trans (by kernel_rfl); have b800 : E.box 800 = some (144, [cS b, cI (rdRaw b (rdNum b (rdNum b s).1).1 32).1.f0, cI (rdRaw b (rdNum b (rdNum b s).1).1 32).1.f1]) := (hA_.box 800 (by kernel_rfl)).trans (by kernel_rfl); exact OpStep.plain rfl (Step.store_box (n := 1) (p := (pI (getBits b (rdRaw b (rdNum b (rdNum b s).1).1 32).1.f0 l.f0).2.1)) (qs := [cI (getBits b (rdRaw b (rdNum b (rdNum b s).1).1 32).1.f0 l.f0).2.1]) (ps' := [cS b, cI (getBits b (rdRaw b (rdNum b (rdNum b s).1).1 32).1.f0 l.f0).2.1, cI (rdRaw b (rdNum b (rdNum b s).1).1 32).1.f1]) rfl rfl (by kernel_rfl) (show Env.ev E (.tmp 38) = _ from g38.trans rfl) b800 (show Env.ev E (.tmp 34) = _ from g34.trans rfl) rfl rfl rfl (le_ok rfl) rfl)) ?_
  refine .cons (fun E hA_ => by have g21 : E.get 21 = (.one (.ptr 800 0)) := (hA_.get 21 (by kernel_rfl)).trans (by kernel_rfl); exact OpStep.plain rfl (Step.nilCheck (t := 39) rfl rfl (by exact lt_ok rfl) (show Env.ev E (.tmp 21) = _ from g21.trans rfl))) ?_
  refine .cons (fun E hA_ => by have g39 : E.get 39 = (.one (.ptr 800 0)) := (hA_.get 39 (by kernel_rfl)).trans (by kernel_rfl); exact OpStep.plain rfl (Step.fa (off := 2) (n := 1) (one := true) 0 40 (show Env.ev E (.tmp 39) = _ from g39.trans rfl))) ?_
  refine .cons (fun E hA_ => by have g35 : E.get 35 = (pI (getBits b (rdRaw b (rdNum b (rdNum b s).1).1 32).1.f0 l.f0).2.2) := (hA_.get 35 (by kernel_rfl)).trans (by kernel_rfl); have g40 : E.get 40 = (.one (.ptr 800 2)) := (hA_.get 40 (by kernel_rfl)).trans (by kernel_rfl); have b800 : E.box 800 = some (144, [cS b, cI (getBits b (rdRaw b (rdNum b (rdNum b s).1).1 32).1.f0 l.f0).2.1, cI (rdRaw b (rdNum b (rdNum b s).1).1 32).1.f1]) := (hA_.box 800 (by kernel_rfl)).trans (by kernel_rfl); exact OpStep.plain rfl (Step.store_box (n := 1) (p := (pI (getBits b (rdRaw b (rdNum b (rdNum b s).1).1 32).1.f0 l.f0).2.2)) (qs := [cI (getBits b (rdRaw b (rdNum b (rdNum b s).1).1 32).1.f0 l.f0).2.2]) (ps' := [cS b, cI (getBits b (rdRaw b (rdNum b (rdNum b s).1).1 32).1.f0 l.f0).2.1, cI (getBits b (rdRaw b (rdNum b (rdNum b s).1).1 32).1.f0 l.f0).2.2]) rfl rfl (by kernel_rfl) (show Env.ev E (.tmp 40) = _ from g40.trans rfl) b800 (show Env.ev E (.tmp 35) = _ from g35.trans rfl) rfl rfl rfl (le_ok rfl) rfl)) ?_
  exact .nil _ _
 refine TL.wk [(1, (.one (.ptr 800 0))), (4, (.one (.ptr 4 0))), (5, (.one (.ptr 5 0)))] [(4011, (5, (.ints .u8 (rdRaw b (rdNum b (rdNum b s).1).1 32).2))), (1032, (5, (.ints .u8 (getBits b (rdRaw b (rdNum b (rdNum b s).1).1 32).1.f0 l.f0).1)))] [(800, (144, [cS b, cI (getBits b (rdRaw b (rdNum b (rdNum b s).1).1 32).1.f0 l.f0).2.1, cI (getBits b (rdRaw b (rdNum b (rdNum b s).1).1 32).1.f0 l.f0).2.2])), (2, (34, [cI l.f0, cI l.f1, cI l.f2, cI l.f3, cI l.f4])), (4, (38, [cI 0, cI 0, .nil, .nil, .nil])), (5, (38, [cI (rdNum b s).2, cI (rdNum b (rdNum b s).1).2, .row 4011 [], .row 1032 [], .nil]))] ?_
 refine TL.nil ?_
 refine T.seq ?_
 refine T.seq ?_
 refine T.region ?_
 refine TL.c (Step.fd 3 1 true) ?_
 refine TL.c (Step.lb (.row 1032 [])) ?_
 have nn7 := bitList_len (getBits b (rdRaw b (rdNum b (rdNum b s).1).1 32).1.f0 l.f0).1
 refine TL.c (Step.call (f := 139) (xs := [.tmp 42]) (ps := [(.one (.row 1032 []))]) false (g := .func 139) rfl rfl (lt_ok rfl) rfl (by kernel_rfl) rfl (.cons (.one (.row rfl rfl rfl rfl)) .nil) (ok_impl_BitsCount (getBits b (rdRaw b (rdNum b (rdNum b s).1).1 32).1.f0 l.f0).1 (by first | assumption | exact fun x hx => by cases hx) (by first | omega | assumption | (simp only [List.length_append] at *; omega) | (simp; done))) (.inr rfl) rfl (fun x hx => by have := hp x hx; omega) rfl) ?_
 refine TL.mv (pI 0) ?_
 refine TL.nil ?_
 refine T.block ?_
 refine T.nilrow 5 4 100504 24 38 (.bss []) [cI (rdNum b s).2, cI (rdNum b (rdNum b s).1).2, .row 4011 [], .row 1032 [], .nil] rfl rfl rfl (fun x hx => by have := hp x hx; omega) rfl rfl trivial ?_
 refine T.loop (ι := Nat) (fun xx_ => { tm := [(1, (.one (.ptr 800 0))), (4, (.one (.ptr 4 0))), (5, (.one (.ptr 5 0))), (43, (pI ((bitList (getBits b (rdRaw b (rdNum b (rdNum b s).1).1 32).1.f0 l.f0).1).length : Int))), (44, (pI (xx_ : Int)))], rows := [(4011, (5, (.ints .u8 (rdRaw b (rdNum b (rdNum b s).1).1 32).2))), (1032, (5, (.ints .u8 (getBits b (rdRaw b (rdNum b (rdNum b s).1).1 32).1.f0 l.f0).1))), (100504, (24, (.bss (rdTags b (⟨(getBits b (rdRaw b (rdNum b (rdNum b s).1).1 32).1.f0 l.f0).2.1, (getBits b (rdRaw b (rdNum b (rdNum b s).1).1 32).1.f0 l.f0).2.2⟩ : SRS) xx_).2)))], boxes := [(800, (144, [cS b, cI (rdTags b (⟨(getBits b (rdRaw b (rdNum b (rdNum b s).1).1 32).1.f0 l.f0).2.1, (getBits b (rdRaw b (rdNum b (rdNum b s).1).1 32).1.f0 l.f0).2.2⟩ : SRS) xx_).1.f0, cI (rdTags b (⟨(getBits b (rdRaw b (rdNum b (rdNum b s).1).1 32).1.f0 l.f0).2.1, (getBits b (rdRaw b (rdNum b (rdNum b s).1).1 32).1.f0 l.f0).2.2⟩ : SRS) xx_).1.f1])), (2, (34, [cI l.f0, cI l.f1, cI l.f2, cI l.f3, cI l.f4])), (4, (38, [cI 0, cI 0, .nil, .nil, .nil])), (5, (38, [cI (rdNum b s).2, cI (rdNum b (rdNum b s).1).2, .row 4011 [], .row 1032 [], .row 100504 []]))] }) (fun xx_ => xx_ ≤ (bitList (getBits b (rdRaw b (rdNum b (rdNum b s).1).1 32).1.f0 l.f0).1).length) (fun xx_ => (bitList (getBits b (rdRaw b (rdNum b (rdNum b s).1).1 32).1.f0 l.f0).1).length - xx_) 0 ?_ ?_ ?_
 · refine Env.le_mk ⟨rfl, rfl, rfl, rfl, ?_, trivial⟩ ⟨rfl, rfl, ?_, trivial⟩ ⟨?_, rfl, rfl, rfl, trivial⟩ <;> (first | rfl | (refine congrArg (fun n => PV.one (.d (.int .i64 n))) ?_; first | omega | (simp; done)))
 · exact Nat.zero_le _
 intro i hx
 try dsimp only at hx ⊢
 have hl_ := rdTags_len b (⟨(getBits b (rdRaw b (rdNum b (rdNum b s).1).1 32).1.f0 l.f0).2.1, (getBits b (rdRaw b (rdNum b (rdNum b s).1).1 32).1.f0 l.f0).2.2⟩ : SRS) i
 have hz_ : (bitList []).length = 0 := rfl
 have hn_ := bitList_len (getBits b (rdRaw b (rdNum b (rdNum b s).1).1 32).1.f0 l.f0).1
 refine T.seq ?_
 refine T.region ?_
 refine TL.b _ (Bin.lss (k := .i64) (a := (i : Int)) (b := ((bitList (getBits b (rdRaw b (rdNum b (rdNum b s).1).1 32).1.f0 l.f0).1).length : Int))) ?_
 refine TL.nil ?_
 refine T.seq ?_
 refine T.ci rfl (fun h8 => ?_) (fun h8 => ?_)
 ·
  refine T.skip ?_
  refine T.seq ?_
  refine T.block ?_
  have nn9 := rdRaw_len b (rdTags b (⟨(getBits b (rdRaw b (rdNum b (rdNum b s).1).1 32).1.f0 l.f0).2.1, (getBits b (rdRaw b (rdNum b (rdNum b s).1).1 32).1.f0 l.f0).2.2⟩ : SRS) i).1 32
  refine T.drawX [{ dst := some 46, pv := (.one (.ptr 5 4)) }, { dst := some 47, pv := (.one (.row 100504 [])) }, { dst := some 48, pv := (.one (.ptr 800 0)) }, { dst := some 49, pv := (.one (.row 4049 [])), rows := [(4049, (5, (.ints .u8 (rdRaw b (rdTags b (⟨(getBits b (rdRaw b (rdNum b (rdNum b s).1).1 32).1.f0 l.f0).2.1, (getBits b (rdRaw b (rdNum b (rdNum b s).1).1 32).1.f0 l.f0).2.2⟩ : SRS) i).1 32).2)))], box := some (800, (144, [cS b, cI (rdRaw b (rdTags b (⟨(getBits b (rdRaw b (rdNum b (rdNum b s).1).1 32).1.f0 l.f0).2.1, (getBits b (rdRaw b (rdNum b (rdNum b s).1).1 32).1.f0 l.f0).2.2⟩ : SRS) i).1 32).1.f0, cI (rdRaw b (rdTags b (⟨(getBits b (rdRaw b (rdNum b (rdNum b s).1).1 32).1.f0 l.f0).2.1, (getBits b (rdRaw b (rdNum b (rdNum b s).1).1 32).1.f0 l.f0).2.2⟩ : SRS) i).1 32).1.f1])) }, { dst := some 50, pv := (.one (.row 50 [])), rows := [(50, (24, (.bss [(rdRaw b (rdTags b (⟨(getBits b (rdRaw b (rdNum b (rdNum b s).1).1 32).1.f0 l.f0).2.1, (getBits b (rdRaw b (rdNum b (rdNum b s).1).1 32).1.f0 l.f0).2.2⟩ : SRS) i).1 32).2])))], dead := [4049] }, { dst := some 51, pv := (.one (.row 500051 [])), rows := [(500051, (24, (.bss ((rdTags b (⟨(getBits b (rdRaw b (rdNum b (rdNum b s).1).1 32).1.f0 l.f0).2.1, (getBits b (rdRaw b (rdNum b (rdNum b s).1).1 32).1.f0 l.f0).2.2⟩ : SRS) i).2 ++ [(rdRaw b (rdTags b (⟨(getBits b (rdRaw b (rdNum b (rdNum b s).1).1 32).1.f0 l.f0).2.1, (getBits b (rdRaw b (rdNum b (rdNum b s).1).1 32).1.f0 l.f0).2.2⟩ : SRS) i).1 32).2]))))], dead := [100504, 50] }, { dst := some 52, pv := (.one (.ptr 5 4)) }, { box := some (5, (38, [cI (rdNum b s).2, cI (rdNum b (rdNum b s).1).2, .row 4011 [], .row 1032 [], .row 500051 []])) }] (by kernel_rfl) (by kernel_rfl) ?_ ?_
  ·
   refine .cons (fun E hA_ => by have g5 : E.get 5 = (.one (.ptr 5 0)) := (hA_.get 5 (by kernel_rfl)).trans (by kernel_rfl); exact OpStep.plain rfl (Step.fa (off := 4) (n := 1) (one := true) 0 46 (show Env.ev E (.tmp 5) = _ from g5.trans rfl))) ?_
   refine .cons (fun E hA_ => by have g46 : E.get 46 = (.one (.ptr 5 4)) := (hA_.get 46 (by kernel_rfl)).trans (by kernel_rfl); have b5 : E.box 5 = some (38, [cI (rdNum b s).2, cI (rdNum b (rdNum b s).1).2, .row 4011 [], .row 1032 [], .row 100504 []]) := (hA_.box 5 (by kernel_rfl)).trans (by kernel_rfl); exact OpStep.plain rfl (Step.load_box (c := .row 100504 []) (t := 47) rfl rfl (by exact lt_ok rfl) (by kernel_rfl) (show Env.ev E (.tmp 46) = _ from g46.trans rfl) b5 rfl)) ?_
   refine .cons (fun E hA_ => by have g1 : E.get 1 = (.one (.ptr 800 0)) := (hA_.get 1 (by kernel_rfl)).trans (by kernel_rfl); exact OpStep.plain rfl (Step.move (p := (.one (.ptr 800 0))) (t := 48) rfl rfl (by exact lt_ok rfl) (show Env.ev E (.tmp 1) = _ from g1.trans rfl))) ?_
   refine .cons (fun E hA_ => by have g48 : E.get 48 = (.one (.ptr 800 0)) := (hA_.get 48 (by kernel_rfl)).trans (by kernel_rfl); have b800 : E.box 800 = some (144, [cS b, cI (rdTags b (⟨(getBits b (rdRaw b (rdNum b (rdNum b s).1).1 32).1.f0 l.f0).2.1, (getBits b (rdRaw b (rdNum b (rdNum b s).1).1 32).1.f0 l.f0).2.2⟩ : SRS) i).1.f0, cI (rdTags b (⟨(getBits b (rdRaw b (rdNum b (rdNum b s).1).1 32).1.f0 l.f0).2.1, (getBits b (rdRaw b (rdNum b (rdNum b s).1).1 32).1.f0 l.f0).2.2⟩ : SRS) i).1.f1]) := (hA_.box 800 (by kernel_rfl)).trans (by kernel_rfl); exact OpStep.plain rfl (Step.callXX2 (b := 800) (xs := [.tmp 48]) (ps := [(.one (.ptr 800 0))]) (bps := [cS b, cI (rdTags b (⟨(getBits b (rdRaw b (rdNum b (rdNum b s).1).1 32).1.f0 l.f0).2.1, (getBits b (rdRaw b (rdNum b (rdNum b s).1).1 32).1.f0 l.f0).2.2⟩ : SRS) i).1.f0, cI (rdTags b (⟨(getBits b (rdRaw b (rdNum b (rdNum b s).1).1 32).1.f0 l.f0).2.1, (getBits b (rdRaw b (rdNum b (rdNum b s).1).1 32).1.f0 l.f0).2.2⟩ : SRS) i).1.f1]) (ss := []) (g := .func 137) (t := 49) (ok_impl_reader__hash b (rdTags b (⟨(getBits b (rdRaw b (rdNum b (rdNum b s).1).1 32).1.f0 l.f0).2.1, (getBits b (rdRaw b (rdNum b (rdNum b s).1).1 32).1.f0 l.f0).2.2⟩ : SRS) i).1 (by assumption) (by first | omega | assumption | (simp only [List.length_append] at *; omega))) rfl rfl (by exact lt_ok rfl) rfl (by kernel_rfl) (evs_cons (show Env.ev E (.tmp 48) = _ from g48.trans rfl) (rfl)) (.cons (.bx) .nil) b800 (.rd (.rd (.rd .nil))) rfl (handX_fresh (fun x_ hx_ => hA_.fresh x_ (by exact hx_))) (fun x hx => by have := hp x hx; omega) rfl (by simp [rowsOf, rid]))) ?_
   refine .cons (fun E hA_ => by have g49 : E.get 49 = (.one (.row 4049 [])) := (hA_.get 49 (by kernel_rfl)).trans (by kernel_rfl); have q4049 : E.row 4049 = some (5, (.ints .u8 (rdRaw b (rdTags b (⟨(getBits b (rdRaw b (rdNum b (rdNum b s).1).1 32).1.f0 l.f0).2.1, (getBits b (rdRaw b (rdNum b (rdNum b s).1).1 32).1.f0 l.f0).2.2⟩ : SRS) i).1 32).2)) := (hA_.row 4049 (by kernel_rfl)).trans (by kernel_rfl); exact OpStep.plain rfl (Step.litX (e := 24) (z := 1) (by_ := 24) (xs := [.tmp 49]) (pss := [[.row 4049 []]]) (es := [(.ints .u8 (rdRaw b (rdTags b (⟨(getBits b (rdRaw b (rdNum b (rdNum b s).1).1 32).1.f0 l.f0).2.1, (getBits b (rdRaw b (rdNum b (rdNum b s).1).1 32).1.f0 l.f0).2.2⟩ : SRS) i).1 32).2)]) (ss := [4049]) (d := (.bss [(rdRaw b (rdTags b (⟨(getBits b (rdRaw b (rdNum b (rdNum b s).1).1 32).1.f0 l.f0).2.1, (getBits b (rdRaw b (rdNum b (rdNum b s).1).1 32).1.f0 l.f0).2.2⟩ : SRS) i).1 32).2])) (t := 50) rfl rfl (by exact lt_ok rfl) (by kernel_rfl) rfl rfl (.cons (by exact (congrArg PV.flat (show Env.ev E (.tmp 49) = _ from g49.trans rfl)).trans rfl) .nil) (by simp) (le_ok rfl) (le_ok rfl) (by simp only [List.all_cons, List.all_nil, List.flatten_cons, List.flatten_nil, List.append_nil, List.cons_append, List.nil_append, Env.fine, q4049]; rfl) (.row q4049 (by simp) .nil) (hA_.fresh _ (List.mem_singleton.2 rfl)) (by simp) (fun x_ hx_ => by have := hp x_ hx_; omega) rfl trivial rfl rfl)) ?_
   refine .cons (fun E hA_ => by have g47 : E.get 47 = (.one (.row 100504 [])) := (hA_.get 47 (by kernel_rfl)).trans (by kernel_rfl); have g50 : E.get 50 = (.one (.row 50 [])) := (hA_.get 50 (by kernel_rfl)).trans (by kernel_rfl); have q50 : E.row 50 = some (24, (.bss [(rdRaw b (rdTags b (⟨(getBits b (rdRaw b (rdNum b (rdNum b s).1).1 32).1.f0 l.f0).2.1, (getBits b (rdRaw b (rdNum b (rdNum b s).1).1 32).1.f0 l.f0).2.2⟩ : SRS) i).1 32).2])) := (hA_.row 50 (by kernel_rfl)).trans (by kernel_rfl); have q100504 : E.row 100504 = some (24, (.bss (rdTags b (⟨(getBits b (rdRaw b (rdNum b (rdNum b s).1).1 32).1.f0 l.f0).2.1, (getBits b (rdRaw b (rdNum b (rdNum b s).1).1 32).1.f0 l.f0).2.2⟩ : SRS) i).2)) := (hA_.row 100504 (by kernel_rfl)).trans (by kernel_rfl); exact OpStep.plain rfl (Step.appendX (e := 24) (z := 1) (by_ := 24) (d := (.bss (rdTags b (⟨(getBits b (rdRaw b (rdNum b (rdNum b s).1).1 32).1.f0 l.f0).2.1, (getBits b (rdRaw b (rdNum b (rdNum b s).1).1 32).1.f0 l.f0).2.2⟩ : SRS) i).2)) (dy := (.bss [(rdRaw b (rdTags b (⟨(getBits b (rdRaw b (rdNum b (rdNum b s).1).1 32).1.f0 l.f0).2.1, (getBits b (rdRaw b (rdNum b (rdNum b s).1).1 32).1.f0 l.f0).2.2⟩ : SRS) i).1 32).2])) (d' := (.bss ((rdTags b (⟨(getBits b (rdRaw b (rdNum b (rdNum b s).1).1 32).1.f0 l.f0).2.1, (getBits b (rdRaw b (rdNum b (rdNum b s).1).1 32).1.f0 l.f0).2.2⟩ : SRS) i).2 ++ [(rdRaw b (rdTags b (⟨(getBits b (rdRaw b (rdNum b (rdNum b s).1).1 32).1.f0 l.f0).2.1, (getBits b (rdRaw b (rdNum b (rdNum b s).1).1 32).1.f0 l.f0).2.2⟩ : SRS) i).1 32).2]))) (ss := [50]) 500051 (t := 51) rfl rfl (by exact lt_ok rfl) (by kernel_rfl) (show Env.ev E (.tmp 47) = _ from g47.trans rfl) q100504 rfl (lt_ok rfl) (show Env.ev E (.tmp 50) = _ from g50.trans rfl) (.move q50) (by simp) rfl (by simp only [D.size, List.length_map]; first | omega | (simp only [List.length_append, List.length_cons, List.length_nil]; omega) | (simp; omega) | (simp only [List.length_append] at *; omega)) (by simp only [D.size, List.length_map]; first | omega | (simp only [List.length_append, List.length_cons, List.length_nil]; omega) | (simp; omega) | (simp only [List.length_append] at *; omega)) (fun x_ hx_ => by have := hp x_ hx_; omega) (hA_.fresh _ (List.mem_singleton.2 rfl)) (by simp) (fun x_ hx_ => by have := hp x_ hx_; omega))) ?_
   refine .cons (fun E hA_ => by have g5 : E.get 5 = (.one (.ptr 5 0)) := (hA_.get 5 (by kernel_rfl)).trans (by kernel_rfl); exact OpStep.plain rfl (Step.fa (off := 4) (n := 1) (one := true) 0 52 (show Env.ev E (.tmp 5) = _ from g5.trans rfl))) ?_
   refine .cons (fun E hA_ => by have g51 : E.get 51 = (.one (.row 500051 [])) := (hA_.get 51 (by kernel_rfl)).trans (by kernel_rfl); have g52 : E.get 52 = (.one (.ptr 5 4)) := (hA_.get 52 (by kernel_rfl)).trans (by kernel_rfl); have q500051 : E.row 500051 = some (24, (.bss ((rdTags b (⟨(getBits b (rdRaw b (rdNum b (rdNum b s).1).1 32).1.f0 l.f0).2.1, (getBits b (rdRaw b (rdNum b (rdNum b s).1).1 32).1.f0 l.f0).2.2⟩ : SRS) i).2 ++ [(rdRaw b (rdTags b (⟨(getBits b (rdRaw b (rdNum b (rdNum b s).1).1 32).1.f0 l.f0).2.1, (getBits b (rdRaw b (rdNum b (rdNum b s).1).1 32).1.f0 l.f0).2.2⟩ : SRS) i).1 32).2]))) := (hA_.row 500051 (by kernel_rfl)).trans (by kernel_rfl); have b5 : E.box 5 = some (38, [cI (rdNum b s).2, cI (rdNum b (rdNum b s).1).2, .row 4011 [], .row 1032 [], .row 100504 []]) := (hA_.box 5 (by kernel_rfl)).trans (by kernel_rfl); exact OpStep.plain rfl (Step.store_box (n := 1) (p := (.one (.row 500051 []))) (qs := [.row 500051 []]) (ps' := [cI (rdNum b s).2, cI (rdNum b (rdNum b s).1).2, .row 4011 [], .row 1032 [], .row 500051 []]) rfl rfl (by kernel_rfl) (show Env.ev E (.tmp 52) = _ from g52.trans rfl) b5 (show Env.ev E (.tmp 51) = _ from g51.trans rfl) rfl rfl (by simp only [List.all_cons, List.all_nil, List.flatten_cons, List.flatten_nil, List.append_nil, List.cons_append, List.nil_append, Env.fine, q500051]; rfl) (le_ok rfl) rfl)) ?_
   exact .nil _ _
  refine TL.wk [(1, (.one (.ptr 800 0))), (4, (.one (.ptr 4 0))), (5, (.one (.ptr 5 0))), (43, (pI ((bitList (getBits b (rdRaw b (rdNum b (rdNum b s).1).1 32).1.f0 l.f0).1).length : Int))), (44, (pI (i : Int)))] [(4011, (5, (.ints .u8 (rdRaw b (rdNum b (rdNum b s).1).1 32).2))), (1032, (5, (.ints .u8 (getBits b (rdRaw b (rdNum b (rdNum b s).1).1 32).1.f0 l.f0).1))), (500051, (24, (.bss ((rdTags b (⟨(getBits b (rdRaw b (rdNum b (rdNum b s).1).1 32).1.f0 l.f0).2.1, (getBits b (rdRaw b (rdNum b (rdNum b s).1).1 32).1.f0 l.f0).2.2⟩ : SRS) i).2 ++ [(rdRaw b (rdTags b (⟨(getBits b (rdRaw b (rdNum b (rdNum b s).1).1 32).1.f0 l.f0).2.1, (getBits b (rdRaw b (rdNum b (rdNum b s).1).1 32).1.f0 l.f0).2.2⟩ : SRS) i).1 32).2]))))] [(800, (144, [cS b, cI (rdRaw b (rdTags b (⟨(getBits b (rdRaw b (rdNum b (rdNum b s).1).1 32).1.f0 l.f0).2.1, (getBits b (rdRaw b (rdNum b (rdNum b s).1).1 32).1.f0 l.f0).2.2⟩ : SRS) i).1 32).1.f0, cI (rdRaw b (rdTags b (⟨(getBits b (rdRaw b (rdNum b (rdNum b s).1).1 32).1.f0 l.f0).2.1, (getBits b (rdRaw b (rdNum b (rdNum b s).1).1 32).1.f0 l.f0).2.2⟩ : SRS) i).1 32).1.f1])), (2, (34, [cI l.f0, cI l.f1, cI l.f2, cI l.f3, cI l.f4])), (4, (38, [cI 0, cI 0, .nil, .nil, .nil])), (5, (38, [cI (rdNum b s).2, cI (rdNum b (rdNum b s).1).2, .row 4011 [], .row 1032 [], .row 500051 []]))] ?_
  refine TL.ren 500051 100504 rfl (fun x hx => by have := hp x hx; omega) ?_
  refine TL.nil ?_
  refine T.region ?_
  refine TL.c (Step.bin (r := .int .i64 ((i : Int) + 1)) rfl rfl (lt_ok rfl) rfl rfl (Bin.add (a := (i : Int)) (b := 1) (by first | exact wrap_ok (by first | omega | (simp; omega)) (by first | omega | (simp; omega)) | rfl))) ?_
  refine TL.mv (pI ((i : Int) + 1)) ?_
  refine TL.nil ?_
  refine ⟨i + 1, by omega, by first | omega | (dsimp only; omega), Env.le_mk ⟨rfl, rfl, rfl, rfl, ?_, trivial⟩ ⟨rfl, rfl, ?_, trivial⟩ ⟨?_, rfl, rfl, rfl, trivial⟩⟩ <;> (first | rfl | (refine congrArg (fun n => PV.one (.d (.int .i64 n))) ?_; first | omega | (simp; done)))
 refine T.exit ?_
 refine T.seq ?_
 refine T.region ?_
 refine TL.c (Step.lba 5 [cI (rdNum b s).2, cI (rdNum b (rdNum b s).1).2, .row 4011 [], .row 1032 [], .row 100504 []]) ?_
 refine TL.c (Step.sb 5 [cI (rdNum b s).2, cI (rdNum b (rdNum b s).1).2, .row 4011 [], .row 1032 [], .row 100504 []]) ?_
 refine TL.nil ?_
 refine T.ret ?_
 refine ⟨[cS b, cI (rdTags b (⟨(getBits b (rdRaw b (rdNum b (rdNum b s).1).1 32).1.f0 l.f0).2.1, (getBits b (rdRaw b (rdNum b (rdNum b s).1).1 32).1.f0 l.f0).2.2⟩ : SRS) i).1.f0, cI (rdTags b (⟨(getBits b (rdRaw b (rdNum b (rdNum b s).1).1 32).1.f0 l.f0).2.1, (getBits b (rdRaw b (rdNum b (rdNum b s).1).1 32).1.f0 l.f0).2.2⟩ : SRS) i).1.f1], [(true, [cI (rdNum b s).2, cI (rdNum b (rdNum b s).1).2, .row 4011 [], .row 1032 [], .row 100504 []])], rfl, rfl, (.cons rfl .nil), rfl, [4011, 1032, 100504], (RetC.r rfl (RetC.r ?_ (RetC.r ?_ (RetC.r ?_ (RetC.r ?_ (RetC.o ?_ (RetC.o ?_ (RetC.o ?_ .nil))))))))⟩ <;> (first | rfl | (congr 1; unfold rdQc; first | (rw [Nat.le_antisymm hx (by omega)]; first | (rw [rdQcA_yes (s := rdQc3 b s) (by show (rdRaw b (rdNum b (rdNum b s).1).1 32).1.f1 = 0; omega)]; first | done | rfl) | (rw [rdQcA_no (s := rdQc3 b s) (by assumption)]; first | done | rfl)) | (rw [rdQcA_yes (s := rdQc3 b s) (by show (rdRaw b (rdNum b (rdNum b s).1).1 32).1.f1 = 0; omega)]; first | done | rfl) | (rw [rdQcA_no (s := rdQc3 b s) (by assumption)]; first | done | rfl)) | (simp only [D.size, List.length_map]; unfold rdQc; first | (rw [Nat.le_antisymm hx (by omega)]; first | (rw [rdQcA_yes (s := rdQc3 b s) (by show (rdRaw b (rdNum b (rdNum b s).1).1 32).1.f1 = 0; omega)]; first | done | rfl) | (rw [rdQcA_no (s := rdQc3 b s) (by assumption)]; first | done | rfl)) | (rw [rdQcA_yes (s := rdQc3 b s) (by show (rdRaw b (rdNum b (rdNum b s).1).1 32).1.f1 = 0; omega)]; first | done | rfl) | (rw [rdQcA_no (s := rdQc3 b s) (by assumption)]; first | done | rfl)))
theorem ok_impl_reader__must (b : List Int) (s : SRS) (k : Bool) (c : Int) (h0_ : U8s b) (h1_ : b.length ≤ 1048576) : BX Try.prog 142 [.bx, .rd (.one (.bool k)), .rd (.one (.int .i64 c))] 144 [.rd (.ints .u8 b), .rd (.int .i64 s.f0), .rd (.int .i64 s.f1)] [.rd (.ints .u8 b), .rd (.int .i64 (rdMust s k c).f0), .rd (.int .i64 (rdMust s k c).f1)] [] := by
 refine BX.intro Try.func142 rfl 19 rfl (le_ok rfl) (le_ok rfl) fun w Z IX pin hp => ?_
 refine T.seq ?_
 refine T.region ?_
 refine TL.mv (.one (.ptr 800 0)) ?_
 refine TL.c (Step.nilCheck rfl rfl (lt_ok rfl) rfl) ?_
 refine TL.c (Step.fd 2 1 true) ?_
 refine TL.c (Step.lb (.d (.int .i64 s.f1))) ?_
 refine TL.b _ (Bin.eql (k := .i64) (a := s.f1) (b := 0)) ?_
 refine TL.mv (pB (decide (s.f1 = 0))) ?_
 rcases Bool.eq_false_or_eq_true (decide (s.f1 = 0)) with hb1 | hb1
 ·
  refine TL.known 11 hb1 rfl ?_
  have hb1' := hb1
  replace hb1' := of_decide_eq_true hb1'
  refine TL.gm 11 (pB k) ?_
  refine TL.gy 11 (Step.not (b := k) rfl rfl (lt_ok rfl) rfl) ?_
  refine TL.pk true (pB (!k)) ?_
  refine TL.nil ?_
  refine T.cn rfl (fun h2 => ?_) (fun h2 => ?_)
  ·
   refine T.region ?_
   refine TL.mv (.one (.ptr 800 0)) ?_
   refine TL.mv (pI c) ?_
   refine TL.c (Step.nilCheck rfl rfl (lt_ok rfl) rfl) ?_
   refine TL.c (Step.fd 2 1 true) ?_
   refine TL.c (Step.sb 1 [cS b, cI s.f0, cI c]) ?_
   refine TL.nil ?_
   refine ⟨[cS b, cI s.f0, cI c], [], rfl, rfl, .nil, rfl, [], (RetC.r rfl (RetC.r ?_ (RetC.r ?_ .nil)))⟩ <;> (first | rfl | (congr 1; first | (rw [rdMust_er (by omega)]; done) | (rw [rdMust_ok (by first | assumption | (rw [hk_, show bad = true from by assumption]; rfl) | (rw [hk_, show bad = false from by assumption]; rfl))]; done) | (rw [rdMust_hit (by omega) (by first | assumption | (rw [hk_, show bad = true from by assumption]; rfl) | (rw [hk_, show bad = false from by assumption]; rfl))]; done)))
  refine T.skip ?_
  refine ⟨[cS b, cI s.f0, cI s.f1], [], rfl, rfl, .nil, rfl, [], (RetC.r rfl (RetC.r ?_ (RetC.r ?_ .nil)))⟩ <;> (first | rfl | (congr 1; first | (rw [rdMust_er (by omega)]; done) | (rw [rdMust_ok (by first | assumption | (rw [hk_, show bad = true from by assumption]; rfl) | (rw [hk_, show bad = false from by assumption]; rfl))]; done) | (rw [rdMust_hit (by omega) (by first | assumption | (rw [hk_, show bad = true from by assumption]; rfl) | (rw [hk_, show bad = false from by assumption]; rfl))]; done)))
 refine TL.known 11 hb1 rfl ?_
 have hb1' := hb1
 replace hb1' := of_decide_eq_false hb1'
 refine TL.gf 11 ?_
 refine TL.gf 11 ?_
 refine TL.pk false (pB false) ?_
 refine TL.nil ?_
 refine T.cf ?_
 refine T.skip ?_
 refine ⟨[cS b, cI s.f0, cI s.f1], [], rfl, rfl, .nil, rfl, [], (RetC.r rfl (RetC.r ?_ (RetC.r ?_ .nil)))⟩ <;> (first | rfl | (congr 1; first | (rw [rdMust_er (by omega)]; done) | (rw [rdMust_ok (by first | assumption | (rw [hk_, show bad = true from by assumption]; rfl) | (rw [hk_, show bad = false from by assumption]; rfl))]; done) | (rw [rdMust_hit (by omega) (by first | assumption | (rw [hk_, show bad = true from by assumption]; rfl) | (rw [hk_, show bad = false from by assumption]; rfl))]; done)))
theorem ok_impl_reader__below (b : List Int) (s : SRS) (n : Int) (c : Int) (h0_ : U8s b) (h1_ : b.length ≤ 1048576) : BX Try.prog 143 [.bx, .rd (.one (.int .i64 n)), .rd (.one (.int .i64 c))] 144 [.rd (.ints .u8 b), .rd (.int .i64 s.f0), .rd (.int .i64 s.f1)] [.rd (.ints .u8 b), .rd (.int .i64 (rdBelow b s n c).1.f0), .rd (.int .i64 (rdBelow b s n c).1.f1)] [(false, [.rd (.int .i64 (rdBelow b s n c).2)])] := by
 refine BX.intro Try.func143 rfl 17 rfl (le_ok rfl) (le_ok rfl) fun w Z IX pin hp => ?_
 refine T.seq ?_
 refine T.region ?_
 refine TL.as (pI 0) ?_
 refine TL.nil ?_
 refine T.seq ?_
 refine T.region ?_
 refine TL.mv (.one (.ptr 800 0)) ?_
 have nn1 := @rdNum_bd b (by assumption) s
 refine TL.c (Step.callX2 (b := 800) (xs := [.tmp 8]) (ps := [(.one (.ptr 800 0))]) (bps := [cS b, cI s.f0, cI s.f1]) (ss := []) (g := .func 136) (ok_impl_reader__num b s (by assumption) (by first | omega | assumption | (simp only [List.length_append] at *; omega))) rfl rfl (lt_ok rfl) rfl (by kernel_rfl) rfl (.cons (.bx) .nil) rfl (.rd (.rd (.rd .nil))) rfl rfl (fun x hx => by have := hp x hx; omega) rfl) ?_
 refine TL.as (pI (rdNum b s).2) ?_
 refine TL.nil ?_
 refine T.seq ?_
 refine T.region ?_
 refine TL.mv (.one (.ptr 800 0)) ?_
 refine TL.mv (pI (rdNum b s).2) ?_
 refine TL.mv (pI n) ?_
 refine TL.b _ (Bin.lss (k := .i64) (a := (rdNum b s).2) (b := n)) ?_
 refine TL.mv (pI c) ?_
 refine TL.c (Step.callX2 (b := 800) (xs := [.tmp 10, .tmp 13, .tmp 14]) (ps := [(.one (.ptr 800 0)), (pB (decide ((rdNum b s).2 < n))), (pI c)]) (bps := [cS b, cI (rdNum b s).1.f0, cI (rdNum b s).1.f1]) (ss := []) (g := .func 142) (ok_impl_reader__must b (rdNum b s).1 (decide ((rdNum b s).2 < n)) c (by assumption) (by first | omega | assumption | (simp only [List.length_append] at *; omega))) rfl rfl (lt_ok rfl) rfl (by kernel_rfl) rfl (.cons (.bx) (.cons (.rd (.one (.d _))) (.cons (.rd (.one (.d _))) .nil))) rfl (.rd (.rd (.rd .nil))) rfl rfl (fun x hx => by have := hp x hx; omega) rfl) ?_
 refine TL.nil ?_
 refine T.seq ?_
 refine T.region ?_
 refine TL.mv (pI (rdNum b s).2) ?_
 refine TL.as (pI (rdNum b s).2) ?_
 refine TL.nil ?_
 refine T.ret ?_
 refine ⟨[cS b, cI (rdMust (rdNum b s).1 (decide ((rdNum b s).2 < n)) c).f0, cI (rdMust (rdNum b s).1 (decide ((rdNum b s).2 < n)) c).f1], [(false, [cI (rdNum b s).2])], rfl, rfl, (.cons rfl .nil), rfl, [], (RetC.r rfl (RetC.r ?_ (RetC.r ?_ (RetC.r ?_ .nil))))⟩ <;> (rfl)
theorem ok_impl_SameBytes (a : List Int) (b : List Int) (h0_ : U8s a) (h1_ : U8s b) : RO Try.prog 107 [.one (.ints .u8 a), .one (.ints .u8 b)] [(false, [.rd (.bool (decide (a = b)))])] := by
 refine RO.intro Try.func107 rfl 10 rfl (le_ok rfl) fun w Z => ?_
 refine T.bnd 0 0 rfl rfl fun hb_0_0 => ?_
 simp only [D.size, List.length_map] at hb_0_0
 refine T.bnd 1 0 rfl rfl fun hb_1_0 => ?_
 simp only [D.size, List.length_map] at hb_1_0
 refine T.seq ?_
 refine T.region ?_
 refine TL.as (pB false) ?_
 refine TL.nil ?_
 refine T.seq ?_
 refine T.region ?_
 refine TL.mv (pS a) ?_
 refine TL.c (Step.toStr (e := 5) (xs := a) rfl rfl (lt_ok rfl) (by kernel_rfl) (by kernel_rfl) (by kernel_rfl) rfl rfl) ?_
 refine TL.mv (pS b) ?_
 refine TL.c (Step.toStr (e := 5) (xs := b) rfl rfl (lt_ok rfl) (by kernel_rfl) (by kernel_rfl) (by kernel_rfl) rfl rfl) ?_
 refine TL.c (Step.bin rfl rfl (lt_ok rfl) rfl rfl Bin.streq) ?_
 refine TL.as (pB ((strOfNums a).toList == (strOfNums b).toList)) ?_
 refine TL.nil ?_
 refine T.ret ?_
 refine ⟨[(false, [.d (.bool ((strOfNums a).toList == (strOfNums b).toList))])], (.cons rfl .nil), rfl, [], (RetC.r ?_ .nil)⟩ <;> (exact congrArg D.bool (str_eq h0_ h1_))
theorem ok_impl_Head__matches (h : SHead) (h0_ : h.ok) : RO Try.prog 144 [.agg h.cells] [(false, [.rd (.bool (headFits h))])] := by
 refine RO.intro Try.func144 rfl 26 rfl (le_ok rfl) fun w Z => ?_
 obtain ⟨o0, o1, o2, o3, o4, o5, o6, o7, o8, o9⟩ := h0_
 refine T.seq ?_
 refine T.region ?_
 refine TL.c (Step.bx [cI h.f0, cI h.f1, cI h.f2, cS h.f3, cS h.f4, cI h.f5.f0, cI h.f5.f1, cS h.f5.f2, cS h.f5.f3, .d (.bss h.f5.f4)]) ?_
 refine TL.as (pB false) ?_
 refine TL.nil ?_
 refine T.seq ?_
 refine T.region ?_
 refine TL.c (Step.fd 5 5 false) ?_
 refine TL.c (Step.fd 0 1 true) ?_
 refine TL.c (Step.lb (.d (.int .i64 h.f5.f0))) ?_
 refine TL.c (Step.fd 0 1 true) ?_
 refine TL.c (Step.lb (.d (.int .i64 h.f0))) ?_
 refine TL.b _ (Bin.lss (k := .i64) (a := h.f5.f0) (b := h.f0)) ?_
 refine TL.mv (pB (decide (h.f5.f0 < h.f0))) ?_
 rcases Bool.eq_false_or_eq_true (decide (h.f5.f0 < h.f0)) with hb1 | hb1
 ·
  refine TL.known 9 hb1 rfl ?_
  refine TL.gy 9 (Step.fd 5 5 false) ?_
  refine TL.gy 9 (Step.fd 1 1 true) ?_
  refine TL.gy 9 (Step.lb (.d (.int .i64 h.f5.f1))) ?_
  refine TL.gy 9 (Step.fd 1 1 true) ?_
  refine TL.gy 9 (Step.lb (.d (.int .i64 h.f1))) ?_
  refine TL.gy 9 (Step.bin (r := .int .i64 (IntKind.i64.wrap (h.f1 - 1))) rfl rfl (lt_ok rfl) rfl rfl (Bin.sub (a := h.f1) (b := 1) (rfl))) ?_
  refine TL.gy 9 (Step.bin rfl rfl (lt_ok rfl) rfl rfl (Bin.eql (k := .i64) (a := h.f5.f1) (b := (IntKind.i64.wrap (h.f1 - 1))))) ?_
  refine TL.pk true (pB (decide (h.f5.f1 = (IntKind.i64.wrap (h.f1 - 1))))) ?_
  refine TL.mv (pB (decide (h.f5.f1 = (IntKind.i64.wrap (h.f1 - 1))))) ?_
  rcases Bool.eq_false_or_eq_true (decide (h.f5.f1 = (IntKind.i64.wrap (h.f1 - 1)))) with hb2 | hb2
  ·
   refine TL.known 18 hb2 rfl ?_
   refine TL.gy 18 (Step.fd 5 5 false) ?_
   refine TL.gy 18 (Step.fd 2 1 true) ?_
   refine TL.gy 18 (Step.lb (.d (.ints .u8 h.f5.f2))) ?_
   refine TL.gy 18 (Step.fd 3 1 true) ?_
   refine TL.gy 18 (Step.lb (.d (.ints .u8 h.f3))) ?_
   refine TL.gy 18 (Step.cl (xs := [.tmp 21, .tmp 23]) (ps := [(pS h.f5.f2), (pS h.f3)]) (g := .func 107) false (.cons (.one (.d _)) (.cons (.one (.d _)) .nil)) (ok_impl_SameBytes h.f5.f2 h.f3 (by first | assumption | omega) (by first | assumption | omega))) ?_
   refine TL.pk true (pB (decide (h.f5.f2 = h.f3))) ?_
   refine TL.as (pB (decide (h.f5.f2 = h.f3))) ?_
   refine TL.nil ?_
   refine T.ret ?_
   refine ⟨[(false, [.d (.bool (decide (h.f5.f2 = h.f3)))])], (.cons rfl .nil), rfl, [], (RetC.r ?_ .nil)⟩ <;> (first | rfl | (congr 1; symm; simp only [headFits, *, Bool.and_true, Bool.true_and, Bool.and_false, Bool.false_and, decide_true, decide_false, and_true, true_and, and_self, and_false, false_and, Bool.and_self, not_true, not_false, Bool.not_true, Bool.not_false, ge_iff_le, gt_iff_lt, if_true, if_false, Bool.false_eq_true, ite_true, ite_false, reduceIte]; done) | (congr 1; symm; simp_all [headFits]; done) | (congr 1; symm; simp_all [headFits]; omega))
  refine TL.known 18 hb2 rfl ?_
  refine TL.gf 18 ?_
  refine TL.gf 18 ?_
  refine TL.gf 18 ?_
  refine TL.gf 18 ?_
  refine TL.gf 18 ?_
  refine TL.gf 18 ?_
  refine TL.pk false (pB false) ?_
  refine TL.as (pB false) ?_
  refine TL.nil ?_
  refine T.ret ?_
  refine ⟨[(false, [.d (.bool false)])], (.cons rfl .nil), rfl, [], (RetC.r ?_ .nil)⟩ <;> (first | rfl | (congr 1; symm; simp only [headFits, *, Bool.and_true, Bool.true_and, Bool.and_false, Bool.false_and, decide_true, decide_false, and_true, true_and, and_self, and_false, false_and, Bool.and_self, not_true, not_false, Bool.not_true, Bool.not_false, ge_iff_le, gt_iff_lt, if_true, if_false, Bool.false_eq_true, ite_true, ite_false, reduceIte]; done) | (congr 1; symm; simp_all [headFits]; done) | (congr 1; symm; simp_all [headFits]; omega))
 refine TL.known 9 hb1 rfl ?_
 refine TL.gf 9 ?_
 refine TL.gf 9 ?_
 refine TL.gf 9 ?_
 refine TL.gf 9 ?_
 refine TL.gf 9 ?_
 refine TL.gf 9 ?_
 refine TL.gf 9 ?_
 refine TL.pk false (pB false) ?_
 refine TL.mv (pB false) ?_
 refine TL.gf 18 ?_
 refine TL.gf 18 ?_
 refine TL.gf 18 ?_
 refine TL.gf 18 ?_
 refine TL.gf 18 ?_
 refine TL.gf 18 ?_
 refine TL.pk false (pB false) ?_
 refine TL.as (pB false) ?_
 refine TL.nil ?_
 refine T.ret ?_
 refine ⟨[(false, [.d (.bool false)])], (.cons rfl .nil), rfl, [], (RetC.r ?_ .nil)⟩ <;> (first | rfl | (congr 1; symm; simp only [headFits, *, Bool.and_true, Bool.true_and, Bool.and_false, Bool.false_and, decide_true, decide_false, and_true, true_and, and_self, and_false, false_and, Bool.and_self, not_true, not_false, Bool.not_true, Bool.not_false, ge_iff_le, gt_iff_lt, if_true, if_false, Bool.false_eq_true, ite_true, ite_false, reduceIte]; done) | (congr 1; symm; simp_all [headFits]; done) | (congr 1; symm; simp_all [headFits]; omega))
theorem ok_impl_readHead (b : List Int) (s : SRS) (l : SLimits) (h0_ : U8s b) (h1_ : b.length ≤ 1048576) : BX Try.prog 92 [.rd (.agg [(.int .i64 l.f0), (.int .i64 l.f1), (.int .i64 l.f2), (.int .i64 l.f3), (.int .i64 l.f4)]), .bx] 144 [.rd (.ints .u8 b), .rd (.int .i64 s.f0), .rd (.int .i64 s.f1)] [.rd (.ints .u8 b), .rd (.int .i64 (rdHead l b s).1.f0), .rd (.int .i64 (rdHead l b s).1.f1)] [(true, [.rd (.int .i64 (rdHead l b s).2.f0), .rd (.int .i64 (rdHead l b s).2.f1), .rd (.int .i64 (rdHead l b s).2.f2), .own 5 (.ints .u8 (rdHead l b s).2.f3), .own 5 (.ints .u8 (rdHead l b s).2.f4), .rd (.int .i64 (rdHead l b s).2.f5.f0), .rd (.int .i64 (rdHead l b s).2.f5.f1), .own 5 (.ints .u8 (rdHead l b s).2.f5.f2), .own 5 (.ints .u8 (rdHead l b s).2.f5.f3), .own 24 (.bss (rdHead l b s).2.f5.f4)])] := by
 refine BX.intro Try.func92 rfl 36 rfl (le_ok rfl) (le_ok rfl) fun w Z IX pin hp => ?_
 refine T.seq ?_
 refine T.region ?_
 refine TL.c (Step.bx [cI l.f0, cI l.f1, cI l.f2, cI l.f3, cI l.f4]) ?_
 refine TL.c (Step.al [cI 0, cI 0, cI 0, .nil, .nil, cI 0, cI 0, .nil, .nil, .nil]) ?_
 refine TL.nil ?_
 refine T.seq ?_
 refine T.region ?_
 refine TL.mv (.one (.ptr 800 0)) ?_
 have nn1 := @rdNum_bd b (by assumption) s
 refine TL.c (Step.callX2 (b := 800) (xs := [.tmp 6]) (ps := [(.one (.ptr 800 0))]) (bps := [cS b, cI s.f0, cI s.f1]) (ss := []) (g := .func 136) (ok_impl_reader__num b s (by assumption) (by first | omega | assumption | (simp only [List.length_append] at *; omega))) rfl rfl (lt_ok rfl) rfl (by kernel_rfl) rfl (.cons (.bx) .nil) rfl (.rd (.rd (.rd .nil))) rfl rfl (fun x hx => by have := hp x hx; omega) rfl) ?_
 refine TL.mv (.one (.ptr 800 0)) ?_
 have nn2 := @rdNum_bd b (by assumption) (rdNum b s).1
 refine TL.c (Step.callX2 (b := 800) (xs := [.tmp 8]) (ps := [(.one (.ptr 800 0))]) (bps := [cS b, cI (rdNum b s).1.f0, cI (rdNum b s).1.f1]) (ss := []) (g := .func 136) (ok_impl_reader__num b (rdNum b s).1 (by assumption) (by first | omega | assumption | (simp only [List.length_append] at *; omega))) rfl rfl (lt_ok rfl) rfl (by kernel_rfl) rfl (.cons (.bx) .nil) rfl (.rd (.rd (.rd .nil))) rfl rfl (fun x hx => by have := hp x hx; omega) rfl) ?_
 refine TL.c (Step.build (zs := [.int .i64 0, .int .i64 0, .int .i64 0, .slice none 0 0, .slice none 0 0, .int .i64 0, .int .i64 0, .slice none 0 0, .slice none 0 0, .slice none 0 0]) (places := [(0, 1), (1, 1), (2, 1), (3, 1), (4, 1), (5, 5)]) (pss := [(0, [cI (rdNum b s).2]), (1, [cI (rdNum b (rdNum b s).1).2])]) (ps' := [cI (rdNum b s).2, cI (rdNum b (rdNum b s).1).2, cI 0, .nil, .nil, cI 0, cI 0, .nil, .nil, .nil]) rfl rfl (lt_ok rfl) (by kernel_rfl) (.cons ⟨rfl, rfl⟩ (.cons ⟨rfl, rfl⟩ .nil)) rfl rfl rfl) ?_
 refine TL.c (Step.al [cI 0, cI 0, cI 0, .nil, .nil, cI 0, cI 0, .nil, .nil, .nil]) ?_
 refine TL.c (Step.sb 10 [cI (rdNum b s).2, cI (rdNum b (rdNum b s).1).2, cI 0, .nil, .nil, cI 0, cI 0, .nil, .nil, .nil]) ?_
 refine TL.nil ?_
 refine T.seq ?_
 refine T.region ?_
 refine TL.mv (.one (.ptr 800 0)) ?_
 refine TL.c (Step.fd 1 1 true) ?_
 refine TL.c (Step.lb (.d (.int .i64 (rdNum b (rdNum b s).1).2))) ?_
 refine TL.b _ (Bin.neq (k := .i64) (a := (rdNum b (rdNum b s).1).2) (b := 0)) ?_
 refine TL.c (Step.callX2 (b := 800) (xs := [.tmp 11, .tmp 14, .const (.int .i64 5)]) (ps := [(.one (.ptr 800 0)), (pB (decide ((rdNum b (rdNum b s).1).2 ≠ 0))), (pI 5)]) (bps := [cS b, cI (rdNum b (rdNum b s).1).1.f0, cI (rdNum b (rdNum b s).1).1.f1]) (ss := []) (g := .func 142) (ok_impl_reader__must b (rdNum b (rdNum b s).1).1 (decide ((rdNum b (rdNum b s).1).2 ≠ 0)) 5 (by assumption) (by first | omega | assumption | (simp only [List.length_append] at *; omega))) rfl rfl (lt_ok rfl) rfl (by kernel_rfl) rfl (.cons (.bx) (.cons (.rd (.one (.d _))) (.cons (.rd (.one (.d _))) .nil))) rfl (.rd (.rd (.rd .nil))) rfl rfl (fun x hx => by have := hp x hx; omega) rfl) ?_
 refine TL.nil ?_
 refine T.seq ?_
 refine T.region ?_
 refine TL.mv (.one (.ptr 800 0)) ?_
 refine TL.c (Step.fd 0 1 true) ?_
 refine TL.c (Step.lb (.d (.int .i64 l.f0))) ?_
 have nn3 := @rdNum_bd b (by assumption) (rdMust (rdNum b (rdNum b s).1).1 (decide ((rdNum b (rdNum b s).1).2 ≠ 0)) 5)
 refine TL.c (Step.callX2 (b := 800) (xs := [.tmp 16, .tmp 18, .const (.int .i64 5)]) (ps := [(.one (.ptr 800 0)), (pI l.f0), (pI 5)]) (bps := [cS b, cI (rdMust (rdNum b (rdNum b s).1).1 (decide ((rdNum b (rdNum b s).1).2 ≠ 0)) 5).f0, cI (rdMust (rdNum b (rdNum b s).1).1 (decide ((rdNum b (rdNum b s).1).2 ≠ 0)) 5).f1]) (ss := []) (g := .func 143) (ok_impl_reader__below b (rdMust (rdNum b (rdNum b s).1).1 (decide ((rdNum b (rdNum b s).1).2 ≠ 0)) 5) l.f0 5 (by assumption) (by first | omega | assumption | (simp only [List.length_append] at *; omega))) rfl rfl (lt_ok rfl) rfl (by kernel_rfl) rfl (.cons (.bx) (.cons (.rd (.one (.d _))) (.cons (.rd (.one (.d _))) .nil))) rfl (.rd (.rd (.rd .nil))) rfl rfl (fun x hx => by have := hp x hx; omega) rfl) ?_
 refine TL.c (Step.fd 2 1 true) ?_
 refine TL.c (Step.sb 1 [cI (rdNum b s).2, cI (rdNum b (rdNum b s).1).2, cI (rdBelow b (rdMust (rdNum b (rdNum b s).1).1 (decide ((rdNum b (rdNum b s).1).2 ≠ 0)) 5) l.f0 5).2, .nil, .nil, cI 0, cI 0, .nil, .nil, .nil]) ?_
 refine TL.nil ?_
 refine T.seq ?_
 refine T.region ?_
 refine TL.mv (.one (.ptr 800 0)) ?_
 have nn4 := rdRaw_len b (rdBelow b (rdMust (rdNum b (rdNum b s).1).1 (decide ((rdNum b (rdNum b s).1).2 ≠ 0)) 5) l.f0 5).1 32
 refine TL.c (Step.callX2 (b := 800) (xs := [.tmp 21]) (ps := [(.one (.ptr 800 0))]) (bps := [cS b, cI (rdBelow b (rdMust (rdNum b (rdNum b s).1).1 (decide ((rdNum b (rdNum b s).1).2 ≠ 0)) 5) l.f0 5).1.f0, cI (rdBelow b (rdMust (rdNum b (rdNum b s).1).1 (decide ((rdNum b (rdNum b s).1).2 ≠ 0)) 5) l.f0 5).1.f1]) (ss := []) (g := .func 137) (ok_impl_reader__hash b (rdBelow b (rdMust (rdNum b (rdNum b s).1).1 (decide ((rdNum b (rdNum b s).1).2 ≠ 0)) 5) l.f0 5).1 (by assumption) (by first | omega | assumption | (simp only [List.length_append] at *; omega))) rfl rfl (lt_ok rfl) rfl (by kernel_rfl) rfl (.cons (.bx) .nil) rfl (.rd (.rd (.rd .nil))) rfl rfl (fun x hx => by have := hp x hx; omega) rfl) ?_
 refine TL.mv (.one (.ptr 800 0)) ?_
 have nn5 := rdRaw_len b (rdRaw b (rdBelow b (rdMust (rdNum b (rdNum b s).1).1 (decide ((rdNum b (rdNum b s).1).2 ≠ 0)) 5) l.f0 5).1 32).1 32
 refine TL.c (Step.callX2 (b := 800) (xs := [.tmp 23]) (ps := [(.one (.ptr 800 0))]) (bps := [cS b, cI (rdRaw b (rdBelow b (rdMust (rdNum b (rdNum b s).1).1 (decide ((rdNum b (rdNum b s).1).2 ≠ 0)) 5) l.f0 5).1 32).1.f0, cI (rdRaw b (rdBelow b (rdMust (rdNum b (rdNum b s).1).1 (decide ((rdNum b (rdNum b s).1).2 ≠ 0)) 5) l.f0 5).1 32).1.f1]) (ss := []) (g := .func 137) (ok_impl_reader__hash b (rdRaw b (rdBelow b (rdMust (rdNum b (rdNum b s).1).1 (decide ((rdNum b (rdNum b s).1).2 ≠ 0)) 5) l.f0 5).1 32).1 (by assumption) (by first | omega | assumption | (simp only [List.length_append] at *; omega))) rfl rfl (lt_ok rfl) rfl (by kernel_rfl) rfl (.cons (.bx) .nil) rfl (.rd (.rd (.rd .nil))) rfl rfl (fun x hx => by have := hp x hx; omega) rfl) ?_
 refine TL.c (Step.fd 3 1 true) ?_
 refine TL.c (Step.sb 1 [cI (rdNum b s).2, cI (rdNum b (rdNum b s).1).2, cI (rdBelow b (rdMust (rdNum b (rdNum b s).1).1 (decide ((rdNum b (rdNum b s).1).2 ≠ 0)) 5) l.f0 5).2, .row 4022 [], .nil, cI 0, cI 0, .nil, .nil, .nil]) ?_
 refine TL.c (Step.fd 4 1 true) ?_
 refine TL.c (Step.sb 1 [cI (rdNum b s).2, cI (rdNum b (rdNum b s).1).2, cI (rdBelow b (rdMust (rdNum b (rdNum b s).1).1 (decide ((rdNum b (rdNum b s).1).2 ≠ 0)) 5) l.f0 5).2, .row 4022 [], .row 4024 [], cI 0, cI 0, .nil, .nil, .nil]) ?_
 refine TL.nil ?_
 refine T.seq ?_
 refine T.region ?_
 refine TL.c (Step.lba 5 [cI l.f0, cI l.f1, cI l.f2, cI l.f3, cI l.f4]) ?_
 refine TL.mv (.one (.ptr 800 0)) ?_
 have nn6 := @rdQc_sm l b (rdRaw b (rdRaw b (rdBelow b (rdMust (rdNum b (rdNum b s).1).1 (decide ((rdNum b (rdNum b s).1).2 ≠ 0)) 5) l.f0 5).1 32).1 32).1 (by first | assumption | omega)
 have nn7 := @rdQc_ok l b (rdRaw b (rdRaw b (rdBelow b (rdMust (rdNum b (rdNum b s).1).1 (decide ((rdNum b (rdNum b s).1).2 ≠ 0)) 5) l.f0 5).1 32).1 32).1 (by assumption)
 refine TL.c (Step.callX2 (b := 800) (xs := [.tmp 27, .tmp 28]) (ps := [(.agg [cI l.f0, cI l.f1, cI l.f2, cI l.f3, cI l.f4]), (.one (.ptr 800 0))]) (bps := [cS b, cI (rdRaw b (rdRaw b (rdBelow b (rdMust (rdNum b (rdNum b s).1).1 (decide ((rdNum b (rdNum b s).1).2 ≠ 0)) 5) l.f0 5).1 32).1 32).1.f0, cI (rdRaw b (rdRaw b (rdBelow b (rdMust (rdNum b (rdNum b s).1).1 (decide ((rdNum b (rdNum b s).1).2 ≠ 0)) 5) l.f0 5).1 32).1 32).1.f1]) (ss := []) (g := .func 89) (ok_impl_readQc b (rdRaw b (rdRaw b (rdBelow b (rdMust (rdNum b (rdNum b s).1).1 (decide ((rdNum b (rdNum b s).1).2 ≠ 0)) 5) l.f0 5).1 32).1 32).1 l (by assumption) (by first | omega | assumption | (simp only [List.length_append] at *; omega))) rfl rfl (lt_ok rfl) rfl (by kernel_rfl) rfl (.cons (.rd (.agg (.cons (.d _) (.cons (.d _) (.cons (.d _) (.cons (.d _) (.cons (.d _) .nil))))))) (.cons (.bx) .nil)) rfl (.rd (.rd (.rd .nil))) rfl rfl (fun x hx => by have := hp x hx; omega) rfl) ?_
 refine TL.c (Step.fd 5 5 false) ?_
 refine TL.c (Step.sb 5 [cI (rdNum b s).2, cI (rdNum b (rdNum b s).1).2, cI (rdBelow b (rdMust (rdNum b (rdNum b s).1).1 (decide ((rdNum b (rdNum b s).1).2 ≠ 0)) 5) l.f0 5).2, .row 4022 [], .row 4024 [], cI (rdQc l b (rdRaw b (rdRaw b (rdBelow b (rdMust (rdNum b (rdNum b s).1).1 (decide ((rdNum b (rdNum b s).1).2 ≠ 0)) 5) l.f0 5).1 32).1 32).1).2.f0, cI (rdQc l b (rdRaw b (rdRaw b (rdBelow b (rdMust (rdNum b (rdNum b s).1).1 (decide ((rdNum b (rdNum b s).1).2 ≠ 0)) 5) l.f0 5).1 32).1 32).1).2.f1, .row 6029 [], .row 7029 [], .row 8029 []]) ?_
 refine TL.nil ?_
 refine T.seq ?_
 refine T.region ?_
 refine TL.mv (.one (.ptr 800 0)) ?_
 refine TL.c (Step.lba 10 [cI (rdNum b s).2, cI (rdNum b (rdNum b s).1).2, cI (rdBelow b (rdMust (rdNum b (rdNum b s).1).1 (decide ((rdNum b (rdNum b s).1).2 ≠ 0)) 5) l.f0 5).2, .row 4022 [], .row 4024 [], cI (rdQc l b (rdRaw b (rdRaw b (rdBelow b (rdMust (rdNum b (rdNum b s).1).1 (decide ((rdNum b (rdNum b s).1).2 ≠ 0)) 5) l.f0 5).1 32).1 32).1).2.f0, cI (rdQc l b (rdRaw b (rdRaw b (rdBelow b (rdMust (rdNum b (rdNum b s).1).1 (decide ((rdNum b (rdNum b s).1).2 ≠ 0)) 5) l.f0 5).1 32).1 32).1).2.f1, .row 6029 [], .row 7029 [], .row 8029 []]) ?_
 refine TL.c (Step.call (f := 144) (xs := [.tmp 32]) (ps := [(.agg [cI (rdNum b s).2, cI (rdNum b (rdNum b s).1).2, cI (rdBelow b (rdMust (rdNum b (rdNum b s).1).1 (decide ((rdNum b (rdNum b s).1).2 ≠ 0)) 5) l.f0 5).2, .row 4022 [], .row 4024 [], cI (rdQc l b (rdRaw b (rdRaw b (rdBelow b (rdMust (rdNum b (rdNum b s).1).1 (decide ((rdNum b (rdNum b s).1).2 ≠ 0)) 5) l.f0 5).1 32).1 32).1).2.f0, cI (rdQc l b (rdRaw b (rdRaw b (rdBelow b (rdMust (rdNum b (rdNum b s).1).1 (decide ((rdNum b (rdNum b s).1).2 ≠ 0)) 5) l.f0 5).1 32).1 32).1).2.f1, .row 6029 [], .row 7029 [], .row 8029 []])]) false (g := .func 144) rfl rfl (lt_ok rfl) rfl (by kernel_rfl) rfl (.cons (.agg (.cons (.d _) (.cons (.d _) (.cons (.d _) (.cons (.row rfl rfl rfl rfl) (.cons (.row rfl rfl rfl rfl) (.cons (.d _) (.cons (.d _) (.cons (.row rfl rfl rfl rfl) (.cons (.row rfl rfl rfl rfl) (.cons (.row rfl rfl rfl rfl) .nil))))))))))) .nil) (ok_impl_Head__matches (⟨(rdNum b s).2, (rdNum b (rdNum b s).1).2, (rdBelow b (rdMust (rdNum b (rdNum b s).1).1 (decide ((rdNum b (rdNum b s).1).2 ≠ 0)) 5) l.f0 5).2, (rdRaw b (rdBelow b (rdMust (rdNum b (rdNum b s).1).1 (decide ((rdNum b (rdNum b s).1).2 ≠ 0)) 5) l.f0 5).1 32).2, (rdRaw b (rdRaw b (rdBelow b (rdMust (rdNum b (rdNum b s).1).1 (decide ((rdNum b (rdNum b s).1).2 ≠ 0)) 5) l.f0 5).1 32).1 32).2, (rdQc l b (rdRaw b (rdRaw b (rdBelow b (rdMust (rdNum b (rdNum b s).1).1 (decide ((rdNum b (rdNum b s).1).2 ≠ 0)) 5) l.f0 5).1 32).1 32).1).2⟩ : SHead) (by first | assumption | exact rdHead_ok (l := l) (s := s) h0_)) (.inr rfl) rfl (fun x hx => by have := hp x hx; omega) rfl) ?_
 refine TL.c (Step.callX2 (b := 800) (xs := [.tmp 31, .tmp 33, .const (.int .i64 6)]) (ps := [(.one (.ptr 800 0)), (pB (headFits (⟨(rdNum b s).2, (rdNum b (rdNum b s).1).2, (rdBelow b (rdMust (rdNum b (rdNum b s).1).1 (decide ((rdNum b (rdNum b s).1).2 ≠ 0)) 5) l.f0 5).2, (rdRaw b (rdBelow b (rdMust (rdNum b (rdNum b s).1).1 (decide ((rdNum b (rdNum b s).1).2 ≠ 0)) 5) l.f0 5).1 32).2, (rdRaw b (rdRaw b (rdBelow b (rdMust (rdNum b (rdNum b s).1).1 (decide ((rdNum b (rdNum b s).1).2 ≠ 0)) 5) l.f0 5).1 32).1 32).2, (rdQc l b (rdRaw b (rdRaw b (rdBelow b (rdMust (rdNum b (rdNum b s).1).1 (decide ((rdNum b (rdNum b s).1).2 ≠ 0)) 5) l.f0 5).1 32).1 32).1).2⟩ : SHead))), (pI 6)]) (bps := [cS b, cI (rdQc l b (rdRaw b (rdRaw b (rdBelow b (rdMust (rdNum b (rdNum b s).1).1 (decide ((rdNum b (rdNum b s).1).2 ≠ 0)) 5) l.f0 5).1 32).1 32).1).1.f0, cI (rdQc l b (rdRaw b (rdRaw b (rdBelow b (rdMust (rdNum b (rdNum b s).1).1 (decide ((rdNum b (rdNum b s).1).2 ≠ 0)) 5) l.f0 5).1 32).1 32).1).1.f1]) (ss := []) (g := .func 142) (ok_impl_reader__must b (rdQc l b (rdRaw b (rdRaw b (rdBelow b (rdMust (rdNum b (rdNum b s).1).1 (decide ((rdNum b (rdNum b s).1).2 ≠ 0)) 5) l.f0 5).1 32).1 32).1).1 (headFits (⟨(rdNum b s).2, (rdNum b (rdNum b s).1).2, (rdBelow b (rdMust (rdNum b (rdNum b s).1).1 (decide ((rdNum b (rdNum b s).1).2 ≠ 0)) 5) l.f0 5).2, (rdRaw b (rdBelow b (rdMust (rdNum b (rdNum b s).1).1 (decide ((rdNum b (rdNum b s).1).2 ≠ 0)) 5) l.f0 5).1 32).2, (rdRaw b (rdRaw b (rdBelow b (rdMust (rdNum b (rdNum b s).1).1 (decide ((rdNum b (rdNum b s).1).2 ≠ 0)) 5) l.f0 5).1 32).1 32).2, (rdQc l b (rdRaw b (rdRaw b (rdBelow b (rdMust (rdNum b (rdNum b s).1).1 (decide ((rdNum b (rdNum b s).1).2 ≠ 0)) 5) l.f0 5).1 32).1 32).1).2⟩ : SHead)) 6 (by assumption) (by first | omega | assumption | (simp only [List.length_append] at *; omega))) rfl rfl (lt_ok rfl) rfl (by kernel_rfl) rfl (.cons (.bx) (.cons (.rd (.one (.d _))) (.cons (.rd (.one (.d _))) .nil))) rfl (.rd (.rd (.rd .nil))) rfl rfl (fun x hx => by have := hp x hx; omega) rfl) ?_
 refine TL.nil ?_
 refine T.wk [(4, (.one (.ptr 4 0))), (5, (.one (.ptr 5 0)))] [(4022, (5, (.ints .u8 (rdRaw b (rdBelow b (rdMust (rdNum b (rdNum b s).1).1 (decide ((rdNum b (rdNum b s).1).2 ≠ 0)) 5) l.f0 5).1 32).2))), (4024, (5, (.ints .u8 (rdRaw b (rdRaw b (rdBelow b (rdMust (rdNum b (rdNum b s).1).1 (decide ((rdNum b (rdNum b s).1).2 ≠ 0)) 5) l.f0 5).1 32).1 32).2))), (6029, (5, (.ints .u8 (rdQc l b (rdRaw b (rdRaw b (rdBelow b (rdMust (rdNum b (rdNum b s).1).1 (decide ((rdNum b (rdNum b s).1).2 ≠ 0)) 5) l.f0 5).1 32).1 32).1).2.f2))), (7029, (5, (.ints .u8 (rdQc l b (rdRaw b (rdRaw b (rdBelow b (rdMust (rdNum b (rdNum b s).1).1 (decide ((rdNum b (rdNum b s).1).2 ≠ 0)) 5) l.f0 5).1 32).1 32).1).2.f3))), (8029, (24, (.bss (rdQc l b (rdRaw b (rdRaw b (rdBelow b (rdMust (rdNum b (rdNum b s).1).1 (decide ((rdNum b (rdNum b s).1).2 ≠ 0)) 5) l.f0 5).1 32).1 32).1).2.f4)))] [(800, (144, [cS b, cI (rdMust (rdQc l b (rdRaw b (rdRaw b (rdBelow b (rdMust (rdNum b (rdNum b s).1).1 (decide ((rdNum b (rdNum b s).1).2 ≠ 0)) 5) l.f0 5).1 32).1 32).1).1 (headFits (⟨(rdNum b s).2, (rdNum b (rdNum b s).1).2, (rdBelow b (rdMust (rdNum b (rdNum b s).1).1 (decide ((rdNum b (rdNum b s).1).2 ≠ 0)) 5) l.f0 5).2, (rdRaw b (rdBelow b (rdMust (rdNum b (rdNum b s).1).1 (decide ((rdNum b (rdNum b s).1).2 ≠ 0)) 5) l.f0 5).1 32).2, (rdRaw b (rdRaw b (rdBelow b (rdMust (rdNum b (rdNum b s).1).1 (decide ((rdNum b (rdNum b s).1).2 ≠ 0)) 5) l.f0 5).1 32).1 32).2, (rdQc l b (rdRaw b (rdRaw b (rdBelow b (rdMust (rdNum b (rdNum b s).1).1 (decide ((rdNum b (rdNum b s).1).2 ≠ 0)) 5) l.f0 5).1 32).1 32).1).2⟩ : SHead)) 6).f0, cI (rdMust (rdQc l b (rdRaw b (rdRaw b (rdBelow b (rdMust (rdNum b (rdNum b s).1).1 (decide ((rdNum b (rdNum b s).1).2 ≠ 0)) 5) l.f0 5).1 32).1 32).1).1 (headFits (⟨(rdNum b s).2, (rdNum b (rdNum b s).1).2, (rdBelow b (rdMust (rdNum b (rdNum b s).1).1 (decide ((rdNum b (rdNum b s).1).2 ≠ 0)) 5) l.f0 5).2, (rdRaw b (rdBelow b (rdMust (rdNum b (rdNum b s).1).1 (decide ((rdNum b (rdNum b s).1).2 ≠ 0)) 5) l.f0 5).1 32).2, (rdRaw b (rdRaw b (rdBelow b (rdMust (rdNum b (rdNum b s).1).1 (decide ((rdNum b (rdNum b s).1).2 ≠ 0)) 5) l.f0 5).1 32).1 32).2, (rdQc l b (rdRaw b (rdRaw b (rdBelow b (rdMust (rdNum b (rdNum b s).1).1 (decide ((rdNum b (rdNum b s).1).2 ≠ 0)) 5) l.f0 5).1 32).1 32).1).2⟩ : SHead)) 6).f1])), (4, (54, [cI 0, cI 0, cI 0, .nil, .nil, cI 0, cI 0, .nil, .nil, .nil])), (5, (54, [cI (rdNum b s).2, cI (rdNum b (rdNum b s).1).2, cI (rdBelow b (rdMust (rdNum b (rdNum b s).1).1 (decide ((rdNum b (rdNum b s).1).2 ≠ 0)) 5) l.f0 5).2, .row 4022 [], .row 4024 [], cI (rdQc l b (rdRaw b (rdRaw b (rdBelow b (rdMust (rdNum b (rdNum b s).1).1 (decide ((rdNum b (rdNum b s).1).2 ≠ 0)) 5) l.f0 5).1 32).1 32).1).2.f0, cI (rdQc l b (rdRaw b (rdRaw b (rdBelow b (rdMust (rdNum b (rdNum b s).1).1 (decide ((rdNum b (rdNum b s).1).2 ≠ 0)) 5) l.f0 5).1 32).1 32).1).2.f1, .row 6029 [], .row 7029 [], .row 8029 []]))] ?_
 refine T.seq ?_
 refine T.region ?_
 refine TL.c (Step.lba 10 [cI (rdNum b s).2, cI (rdNum b (rdNum b s).1).2, cI (rdBelow b (rdMust (rdNum b (rdNum b s).1).1 (decide ((rdNum b (rdNum b s).1).2 ≠ 0)) 5) l.f0 5).2, .row 4022 [], .row 4024 [], cI (rdQc l b (rdRaw b (rdRaw b (rdBelow b (rdMust (rdNum b (rdNum b s).1).1 (decide ((rdNum b (rdNum b s).1).2 ≠ 0)) 5) l.f0 5).1 32).1 32).1).2.f0, cI (rdQc l b (rdRaw b (rdRaw b (rdBelow b (rdMust (rdNum b (rdNum b s).1).1 (decide ((rdNum b (rdNum b s).1).2 ≠ 0)) 5) l.f0 5).1 32).1 32).1).2.f1, .row 6029 [], .row 7029 [], .row 8029 []]) ?_
 refine TL.c (Step.sb 10 [cI (rdNum b s).2, cI (rdNum b (rdNum b s).1).2, cI (rdBelow b (rdMust (rdNum b (rdNum b s).1).1 (decide ((rdNum b (rdNum b s).1).2 ≠ 0)) 5) l.f0 5).2, .row 4022 [], .row 4024 [], cI (rdQc l b (rdRaw b (rdRaw b (rdBelow b (rdMust (rdNum b (rdNum b s).1).1 (decide ((rdNum b (rdNum b s).1).2 ≠ 0)) 5) l.f0 5).1 32).1 32).1).2.f0, cI (rdQc l b (rdRaw b (rdRaw b (rdBelow b (rdMust (rdNum b (rdNum b s).1).1 (decide ((rdNum b (rdNum b s).1).2 ≠ 0)) 5) l.f0 5).1 32).1 32).1).2.f1, .row 6029 [], .row 7029 [], .row 8029 []]) ?_
 refine TL.nil ?_
 refine T.ret ?_
 refine ⟨[cS b, cI (rdMust (rdQc l b (rdRaw b (rdRaw b (rdBelow b (rdMust (rdNum b (rdNum b s).1).1 (decide ((rdNum b (rdNum b s).1).2 ≠ 0)) 5) l.f0 5).1 32).1 32).1).1 (headFits (⟨(rdNum b s).2, (rdNum b (rdNum b s).1).2, (rdBelow b (rdMust (rdNum b (rdNum b s).1).1 (decide ((rdNum b (rdNum b s).1).2 ≠ 0)) 5) l.f0 5).2, (rdRaw b (rdBelow b (rdMust (rdNum b (rdNum b s).1).1 (decide ((rdNum b (rdNum b s).1).2 ≠ 0)) 5) l.f0 5).1 32).2, (rdRaw b (rdRaw b (rdBelow b (rdMust (rdNum b (rdNum b s).1).1 (decide ((rdNum b (rdNum b s).1).2 ≠ 0)) 5) l.f0 5).1 32).1 32).2, (rdQc l b (rdRaw b (rdRaw b (rdBelow b (rdMust (rdNum b (rdNum b s).1).1 (decide ((rdNum b (rdNum b s).1).2 ≠ 0)) 5) l.f0 5).1 32).1 32).1).2⟩ : SHead)) 6).f0, cI (rdMust (rdQc l b (rdRaw b (rdRaw b (rdBelow b (rdMust (rdNum b (rdNum b s).1).1 (decide ((rdNum b (rdNum b s).1).2 ≠ 0)) 5) l.f0 5).1 32).1 32).1).1 (headFits (⟨(rdNum b s).2, (rdNum b (rdNum b s).1).2, (rdBelow b (rdMust (rdNum b (rdNum b s).1).1 (decide ((rdNum b (rdNum b s).1).2 ≠ 0)) 5) l.f0 5).2, (rdRaw b (rdBelow b (rdMust (rdNum b (rdNum b s).1).1 (decide ((rdNum b (rdNum b s).1).2 ≠ 0)) 5) l.f0 5).1 32).2, (rdRaw b (rdRaw b (rdBelow b (rdMust (rdNum b (rdNum b s).1).1 (decide ((rdNum b (rdNum b s).1).2 ≠ 0)) 5) l.f0 5).1 32).1 32).2, (rdQc l b (rdRaw b (rdRaw b (rdBelow b (rdMust (rdNum b (rdNum b s).1).1 (decide ((rdNum b (rdNum b s).1).2 ≠ 0)) 5) l.f0 5).1 32).1 32).1).2⟩ : SHead)) 6).f1], [(true, [cI (rdNum b s).2, cI (rdNum b (rdNum b s).1).2, cI (rdBelow b (rdMust (rdNum b (rdNum b s).1).1 (decide ((rdNum b (rdNum b s).1).2 ≠ 0)) 5) l.f0 5).2, .row 4022 [], .row 4024 [], cI (rdQc l b (rdRaw b (rdRaw b (rdBelow b (rdMust (rdNum b (rdNum b s).1).1 (decide ((rdNum b (rdNum b s).1).2 ≠ 0)) 5) l.f0 5).1 32).1 32).1).2.f0, cI (rdQc l b (rdRaw b (rdRaw b (rdBelow b (rdMust (rdNum b (rdNum b s).1).1 (decide ((rdNum b (rdNum b s).1).2 ≠ 0)) 5) l.f0 5).1 32).1 32).1).2.f1, .row 6029 [], .row 7029 [], .row 8029 []])], rfl, rfl, (.cons rfl .nil), rfl, [4022, 4024, 6029, 7029, 8029], (RetC.r rfl (RetC.r ?_ (RetC.r ?_ (RetC.r ?_ (RetC.r ?_ (RetC.r ?_ (RetC.o ?_ (RetC.o ?_ (RetC.r ?_ (RetC.r ?_ (RetC.o ?_ (RetC.o ?_ (RetC.o ?_ .nil)))))))))))))⟩ <;> (rfl)
theorem ok_impl_GetText (b : List Int) (a : Int) (m : Int) (h0_ : U8s b) (h1_ : b.length ≤ 1099511627776) : RO Try.prog 185 [.one (.ints .u8 b), .one (.int .i64 a), .one (.int .i64 m)] [(false, [.own 5 (.ints .u8 (getText b a m).1)]), (false, [.rd (.int .i64 (getText b a m).2.1)]), (false, [.rd (.int .i64 (getText b a m).2.2)])] := by
 refine RO.intro Try.func185 rfl 31 rfl (le_ok rfl) fun w Z => ?_
 refine T.bnd 0 0 rfl rfl fun hb_0_0 => ?_
 simp only [D.size, List.length_map] at hb_0_0
 refine T.seq ?_
 refine T.region ?_
 refine TL.as (.one (.nil)) ?_
 refine TL.as (pI 0) ?_
 refine TL.as (pI 0) ?_
 refine TL.nil ?_
 refine T.seq ?_
 refine T.region ?_
 refine TL.mv (pS b) ?_
 refine TL.mv (pI a) ?_
 have nn1 := @getVar_bd b (by assumption) a
 refine TL.c (Step.cl (xs := [.tmp 12, .tmp 13]) (ps := [(pS b), (pI a)]) (g := .func 179) false (.cons (.one (.d _)) (.cons (.one (.d _)) .nil)) (ok_impl_GetVar b a (by assumption) (by first | omega | assumption | (simp only [List.length_append] at *; omega)))) ?_
 refine TL.mv (.tup [(false, [cI (getVar b a).1]), (false, [cI (getVar b a).2.1]), (false, [cI (getVar b a).2.2])]) ?_
 refine TL.c (Step.extract (p := (pI (getVar b a).1)) rfl rfl (lt_ok rfl) rfl rfl) ?_
 refine TL.c (Step.extract (p := (pI (getVar b a).2.1)) rfl rfl (lt_ok rfl) rfl rfl) ?_
 refine TL.c (Step.extract (p := (pI (getVar b a).2.2)) rfl rfl (lt_ok rfl) rfl rfl) ?_
 refine TL.as (pI (getVar b a).1) ?_
 refine TL.as (pI (getVar b a).2.1) ?_
 refine TL.as (pI (getVar b a).2.2) ?_
 refine TL.nil ?_
 refine T.seq ?_
 refine T.seq ?_
 refine T.region ?_
 refine TL.mv (pI (getVar b a).2.2) ?_
 refine TL.b _ (Bin.neq (k := .i64) (a := (getVar b a).2.2) (b := 0)) ?_
 refine TL.nil ?_
 refine T.ci rfl (fun h2 => ?_) (fun h2 => ?_)
 ·
  refine T.seq ?_
  refine T.region ?_
  refine TL.mv (pI (getVar b a).2.2) ?_
  refine TL.as (.one (.nil)) ?_
  refine TL.as (pI 0) ?_
  refine TL.as (pI (getVar b a).2.2) ?_
  refine TL.nil ?_
  refine T.ret ?_
  refine ⟨[(false, [.nil]), (false, [cI 0]), (false, [cI (getVar b a).2.2])], (.cons rfl (.cons rfl (.cons rfl .nil))), rfl, [], (RetC.nn ?_ (RetC.r ?_ (RetC.r ?_ .nil)))⟩ <;> (first | (congr 1; unfold getText; first | (rw [if_pos (by omega), if_pos (by omega)]; done) | (rw [if_pos (by omega), if_neg (by omega)]; done) | (rw [if_neg (by omega)]; done)) | (simp only [D.size]; unfold getText; first | (rw [if_pos (by omega), if_pos (by omega)]; rfl) | (rw [if_neg (by omega)]; rfl)))
 refine T.skip ?_
 refine T.seq ?_
 refine T.seq ?_
 refine T.region ?_
 refine TL.mv (pI (getVar b a).1) ?_
 refine TL.mv (pI m) ?_
 refine TL.b _ (Bin.gtr (k := .i64) (a := (getVar b a).1) (b := m)) ?_
 refine TL.nil ?_
 refine T.ci rfl (fun h3 => ?_) (fun h3 => ?_)
 ·
  refine T.seq ?_
  refine T.region ?_
  refine TL.as (.one (.nil)) ?_
  refine TL.as (pI 0) ?_
  refine TL.as (pI 3) ?_
  refine TL.nil ?_
  refine T.ret ?_
  refine ⟨[(false, [.nil]), (false, [cI 0]), (false, [cI 3])], (.cons rfl (.cons rfl (.cons rfl .nil))), rfl, [], (RetC.nn ?_ (RetC.r ?_ (RetC.r ?_ .nil)))⟩ <;> (first | (congr 1; unfold getText; first | (rw [if_pos (by omega), if_pos (by omega)]; done) | (rw [if_pos (by omega), if_neg (by omega)]; done) | (rw [if_neg (by omega)]; done)) | (simp only [D.size]; unfold getText; first | (rw [if_pos (by omega), if_pos (by omega)]; rfl) | (rw [if_neg (by omega)]; rfl)))
 refine T.skip ?_
 refine T.seq ?_
 refine T.region ?_
 refine TL.mv (pS b) ?_
 refine TL.mv (pI (getVar b a).2.1) ?_
 refine TL.mv (pI (getVar b a).1) ?_
 have nn4 := getRaw_bd b (getVar b a).2.1 (getVar b a).1
 refine TL.c (Step.cl (xs := [.tmp 24, .tmp 25, .tmp 26]) (ps := [(pS b), (pI (getVar b a).2.1), (pI (getVar b a).1)]) (g := .func 181) false (.cons (.one (.d _)) (.cons (.one (.d _)) (.cons (.one (.d _)) .nil))) (ok_impl_GetRaw b (getVar b a).2.1 (getVar b a).1 (by first | omega | assumption | (simp only [List.length_append] at *; omega)))) ?_
 refine TL.c (Step.extract (p := (.one (.row 1027 []))) rfl rfl (lt_ok rfl) rfl rfl) ?_
 refine TL.c (Step.extract (p := (pI (getRaw b (getVar b a).2.1 (getVar b a).1).2.1)) rfl rfl (lt_ok rfl) rfl rfl) ?_
 refine TL.c (Step.extract (p := (pI (getRaw b (getVar b a).2.1 (getVar b a).1).2.2)) rfl rfl (lt_ok rfl) rfl rfl) ?_
 refine TL.as (.one (.row 1027 [])) ?_
 refine TL.as (pI (getRaw b (getVar b a).2.1 (getVar b a).1).2.1) ?_
 refine TL.as (pI (getRaw b (getVar b a).2.1 (getVar b a).1).2.2) ?_
 refine TL.nil ?_
 refine T.ret ?_
 refine ⟨[(false, [.row 1027 []]), (false, [cI (getRaw b (getVar b a).2.1 (getVar b a).1).2.1]), (false, [cI (getRaw b (getVar b a).2.1 (getVar b a).1).2.2])], (.cons rfl (.cons rfl (.cons rfl .nil))), rfl, [1027], (RetC.o ?_ (RetC.r ?_ (RetC.r ?_ .nil)))⟩ <;> (first | (congr 1; unfold getText; first | (rw [if_pos (by omega), if_pos (by omega)]; done) | (rw [if_pos (by omega), if_neg (by omega)]; done) | (rw [if_neg (by omega)]; done)) | (simp only [D.size]; unfold getText; first | (rw [if_pos (by omega), if_pos (by omega)]; rfl) | (rw [if_neg (by omega)]; rfl)))
theorem ok_impl_reader__text (b : List Int) (s : SRS) (m : Int) (h0_ : U8s b) (h1_ : b.length ≤ 1048576) : BX Try.prog 146 [.bx, .rd (.one (.int .i64 m))] 144 [.rd (.ints .u8 b), .rd (.int .i64 s.f0), .rd (.int .i64 s.f1)] [.rd (.ints .u8 b), .rd (.int .i64 (rdText b s m).1.f0), .rd (.int .i64 (rdText b s m).1.f1)] [(false, [.own 5 (.ints .u8 (rdText b s m).2)])] := by
 refine BX.intro Try.func146 rfl 36 rfl (le_ok rfl) (le_ok rfl) fun w Z IX pin hp => ?_
 refine T.seq ?_
 refine T.region ?_
 refine TL.as (.one (.nil)) ?_
 refine TL.nil ?_
 refine T.seq ?_
 refine T.seq ?_
 refine T.region ?_
 refine TL.mv (.one (.ptr 800 0)) ?_
 refine TL.c (Step.nilCheck rfl rfl (lt_ok rfl) rfl) ?_
 refine TL.c (Step.fd 2 1 true) ?_
 refine TL.c (Step.lb (.d (.int .i64 s.f1))) ?_
 refine TL.b _ (Bin.neq (k := .i64) (a := s.f1) (b := 0)) ?_
 refine TL.nil ?_
 refine T.ci rfl (fun h1 => ?_) (fun h1 => ?_)
 ·
  refine T.seq ?_
  refine T.region ?_
  refine TL.as (.one (.nil)) ?_
  refine TL.nil ?_
  refine T.ret ?_
  refine ⟨[cS b, cI s.f0, cI s.f1], [(false, [.nil])], rfl, rfl, (.cons rfl .nil), rfl, [], (RetC.r rfl (RetC.r ?_ (RetC.r ?_ (RetC.nn ?_ .nil))))⟩ <;> (first | rfl | (congr 1; unfold rdText; first | (rw [if_pos (by omega)]; done) | (rw [if_neg (by omega)]; done)) | (simp only [D.size]; unfold rdText; rw [if_neg (by omega)]; rfl))
 refine T.skip ?_
 refine T.seq ?_
 have nn2 := getText_bd b s.f0 m
 refine T.draw [⟨14, (.one (.ptr 800 0)), []⟩, ⟨15, (.one (.ptr 800 0)), []⟩, ⟨16, (.one (.ptr 800 0)), []⟩, ⟨17, (pS b), []⟩, ⟨18, (.one (.ptr 800 0)), []⟩, ⟨19, (.one (.ptr 800 0)), []⟩, ⟨20, (.one (.ptr 800 1)), []⟩, ⟨21, (pI s.f0), []⟩, ⟨22, (pI m), []⟩, ⟨23, (.tup [(false, [.row 1023 []]), (false, [cI (getText b s.f0 m).2.1]), (false, [cI (getText b s.f0 m).2.2])]), [(1023, (5, (.ints .u8 (getText b s.f0 m).1)))]⟩, ⟨13, (.tup [(false, [.row 1023 []]), (false, [cI (getText b s.f0 m).2.1]), (false, [cI (getText b s.f0 m).2.2])]), []⟩, ⟨24, (.one (.row 1023 [])), []⟩, ⟨25, (pI (getText b s.f0 m).2.1), []⟩, ⟨26, (pI (getText b s.f0 m).2.2), []⟩, ⟨5, (.one (.row 1023 [])), []⟩, ⟨6, (pI (getText b s.f0 m).2.1), []⟩, ⟨7, (pI (getText b s.f0 m).2.2), []⟩] (by kernel_rfl) (by kernel_rfl) ?_ ?_
 ·
  refine .cons (fun E A => A.mv 0 14) ?_
  refine .cons (fun E A => OpStep.plain rfl (Step.nilCheck (t := 15) rfl rfl (by exact lt_ok rfl) (A.g 14 rfl))) ?_
  refine .cons (fun E A => OpStep.plain rfl (Step.fa (off := 0) (n := 1) (one := true) 0 16 (A.g 15 rfl))) ?_
  refine .cons (fun E A => OpStep.plain rfl (Step.load_box (c := cS b) (t := 17) rfl rfl (by exact lt_ok rfl) (by kernel_rfl) (A.g 16 rfl) (by exact A.box rfl) rfl)) ?_
  refine .cons (fun E A => A.mv 0 18) ?_
  refine .cons (fun E A => OpStep.plain rfl (Step.nilCheck (t := 19) rfl rfl (by exact lt_ok rfl) (A.g 18 rfl))) ?_
  refine .cons (fun E A => OpStep.plain rfl (Step.fa (off := 1) (n := 1) (one := true) 0 20 (A.g 19 rfl))) ?_
  refine .cons (fun E A => OpStep.plain rfl (Step.load_box (c := cI s.f0) (t := 21) rfl rfl (by exact lt_ok rfl) (by kernel_rfl) (A.g 20 rfl) (by exact A.box rfl) rfl)) ?_
  refine .cons (fun E A => A.mv 1 22) ?_
  refine .cons (fun E A => OpStep.plain rfl (Step.call (f := 185) (xs := [.tmp 17, .tmp 21, .tmp 22]) (ps := [(pS b), (pI s.f0), (pI m)]) false (g := .func 185) (t := 23) rfl rfl (by exact lt_ok rfl) rfl (by kernel_rfl) (evs_cons (A.g 17 rfl) (evs_cons (A.g 21 rfl) (evs_cons (A.g 22 rfl) (rfl)))) (.cons (.one (.d _)) (.cons (.one (.d _)) (.cons (.one (.d _)) .nil))) (ok_impl_GetText b s.f0 m (by assumption) (by first | omega | assumption | (simp only [List.length_append] at *; omega))) (.inr rfl) (At.freshRows A rfl) (fun x hx => by have := hp x hx; omega) rfl)) ?_
  refine .cons (fun E A => A.mv 23 13) ?_
  refine .cons (fun E A => OpStep.plain rfl (Step.extract (p := (.one (.row 1023 []))) (t := 24) rfl rfl (by exact lt_ok rfl) (A.g 13 rfl) rfl)) ?_
  refine .cons (fun E A => OpStep.plain rfl (Step.extract (p := (pI (getText b s.f0 m).2.1)) (t := 25) rfl rfl (by exact lt_ok rfl) (A.g 13 rfl) rfl)) ?_
  refine .cons (fun E A => OpStep.plain rfl (Step.extract (p := (pI (getText b s.f0 m).2.2)) (t := 26) rfl rfl (by exact lt_ok rfl) (A.g 13 rfl) rfl)) ?_
  refine .cons (fun E A => A.as 24 5) ?_
  refine .cons (fun E A => A.as 25 6) ?_
  refine .cons (fun E A => A.as 26 7) ?_
  exact .nil _ _
 refine TL.nil ?_
 refine T.seq ?_
 refine T.region ?_
 refine TL.mv (.one (.ptr 800 0)) ?_
 refine TL.mv (.one (.ptr 800 0)) ?_
 refine TL.mv (pI (getText b s.f0 m).2.1) ?_
 refine TL.mv (pI (getText b s.f0 m).2.2) ?_
 refine TL.c (Step.nilCheck rfl rfl (lt_ok rfl) rfl) ?_
 refine TL.c (Step.fd 1 1 true) ?_
 refine TL.c (Step.sb 1 [cS b, cI (getText b s.f0 m).2.1, cI s.f1]) ?_
 refine TL.c (Step.nilCheck rfl rfl (lt_ok rfl) rfl) ?_
 refine TL.c (Step.fd 2 1 true) ?_
 refine TL.c (Step.sb 1 [cS b, cI (getText b s.f0 m).2.1, cI (getText b s.f0 m).2.2]) ?_
 refine TL.nil ?_
 refine T.seq ?_
 refine T.region ?_
 refine TL.mv (.one (.row 1023 [])) ?_
 refine TL.as (.one (.row 1023 [])) ?_
 refine TL.nil ?_
 refine T.ret ?_
 refine ⟨[cS b, cI (getText b s.f0 m).2.1, cI (getText b s.f0 m).2.2], [(false, [.row 1023 []])], rfl, rfl, (.cons rfl .nil), rfl, [1023], (RetC.r rfl (RetC.r ?_ (RetC.r ?_ (RetC.o ?_ .nil))))⟩ <;> (first | rfl | (congr 1; unfold rdText; first | (rw [if_pos (by omega)]; done) | (rw [if_neg (by omega)]; done)) | (simp only [D.size]; unfold rdText; rw [if_neg (by omega)]; rfl))
theorem ok_impl_ShaInit  : RO Try.prog 150 [] [(false, [.own 3 (.ints .i64 shaInit)])] := by
 refine RO.intro Try.func150 rfl 2 rfl (le_ok rfl) fun w Z => ?_
 refine T.seq ?_
 refine T.region ?_
 refine TL.as (.one (.nil)) ?_
 refine TL.nil ?_
 refine T.seq ?_
 refine T.region ?_
 refine TL.c (Step.lit (e := 3) (z := 1) (by_ := 8) (xs := [.const (.int .i64 1779033703), .const (.int .i64 3144134277), .const (.int .i64 1013904242), .const (.int .i64 2773480762), .const (.int .i64 1359893119), .const (.int .i64 2600822924), .const (.int .i64 528734635), .const (.int .i64 1541459225)]) (pss := [[cI 1779033703], [cI 3144134277], [cI 1013904242], [cI 2773480762], [cI 1359893119], [cI 2600822924], [cI 528734635], [cI 1541459225]]) (es := [(.int .i64 1779033703), (.int .i64 3144134277), (.int .i64 1013904242), (.int .i64 2773480762), (.int .i64 1359893119), (.int .i64 2600822924), (.int .i64 528734635), (.int .i64 1541459225)]) (ss := []) (d := (.ints .i64 [1779033703, 3144134277, 1013904242, 2773480762, 1359893119, 2600822924, 528734635, 1541459225])) rfl rfl (lt_ok rfl) (by kernel_rfl) rfl rfl (.cons rfl (.cons rfl (.cons rfl (.cons rfl (.cons rfl (.cons rfl (.cons rfl (.cons rfl .nil)))))))) (by simp) (le_ok rfl) (le_ok rfl) rfl (.val rfl (.val rfl (.val rfl (.val rfl (.val rfl (.val rfl (.val rfl (.val rfl .nil)))))))) rfl (by simp) (by simp) rfl trivial rfl rfl) ?_
 refine TL.as (.one (.row 1 [])) ?_
 refine TL.nil ?_
 refine T.ret ?_
 refine ⟨[(false, [.row 1 []])], (.cons rfl .nil), rfl, [1], (RetC.o ?_ .nil)⟩ <;> (rfl)
theorem ok_impl_ShaPad (b : List Int) (h0_ : b.length ≤ 17592186040000) : RO Try.prog 151 [.one (.ints .u8 b)] [(false, [.own 5 (.ints .u8 (shaPad b))])] := by
 refine RO.intro Try.func151 rfl 31 rfl (le_ok rfl) fun w Z => ?_
 refine T.bnd 0 0 rfl rfl fun hb_0_0 => ?_
 simp only [D.size, List.length_map] at hb_0_0
 refine T.seq ?_
 refine T.region ?_
 refine TL.as (.one (.nil)) ?_
 refine TL.nil ?_
 refine T.seq ?_
 refine T.region ?_
 refine TL.mv (pS b) ?_
 refine TL.c (Step.cl (xs := [.tmp 5]) (ps := [(pS b)]) (g := .func 76) false (.cons (.one (.d _)) .nil) (ok_impl_copyBytes b (by first | omega | assumption | (simp only [List.length_take, List.length_drop]; omega)))) ?_
 refine TL.c (Step.lit (e := 5) (z := 1) (by_ := 1) (xs := [.const (.int .u8 128)]) (pss := [[.d (.int .u8 128)]]) (es := [(.int .u8 128)]) (ss := []) (d := (.ints .u8 [128])) rfl rfl (lt_ok rfl) (by kernel_rfl) rfl rfl (.cons rfl .nil) (by simp) (le_ok rfl) (le_ok rfl) rfl (.val rfl .nil) rfl (by simp) (by simp) rfl trivial rfl rfl) ?_
 refine TL.c (Step.append (e := 5) (z := 1) (by_ := 1) (d := (.ints .u8 b)) (dy := (.ints .u8 [128])) (d' := (.ints .u8 (b ++ [128]))) (ss := []) rfl rfl (lt_ok rfl) (by kernel_rfl) rfl rfl rfl (lt_ok rfl) rfl (.copy rfl rfl rfl (by simp [D.flat, D.val])) (by simp) rfl (by simp only [D.size, List.length_map]; first | omega | (simp only [List.length_append, List.length_cons, List.length_nil]; omega) | (simp; omega) | (simp only [List.length_append] at *; omega)) (by simp only [D.size, List.length_map]; first | omega | (simp only [List.length_append, List.length_cons, List.length_nil]; omega) | (simp; omega) | (simp only [List.length_append] at *; omega)) (by simp)) ?_
 refine TL.as (.one (.row 1006 [])) ?_
 refine TL.nil ?_
 refine T.seq ?_
 refine T.block ?_
 refine T.loop (ι := Nat) (fun xx_ => { tm := [(0, (pS b)), (2, (.one (.nil))), (3, (.one (.row 1006 [])))], rows := [(1006, (5, (.ints .u8 (b ++ [128] ++ List.replicate xx_ 0)))), (7, (5, (.ints .u8 [128])))], boxes := [] }) (fun xx_ => xx_ ≤ padK b.length) (fun xx_ => padK b.length - xx_) 0 ?_ ?_ ?_
 · refine Env.le_mk ⟨rfl, rfl, rfl, trivial⟩ ⟨?_, rfl, trivial⟩ trivial <;> (first | rfl | (refine congrArg (fun x => some (_, D.ints .u8 x)) ?_; first | (simp; done) | (rw [List.replicate_succ', List.append_assoc, List.append_assoc]; first | done | rfl) | (simp only [List.append_assoc, List.replicate_succ', padB]; done) | (rw [show i = padK b.length from by unfold padK; omega]; simp [padB]; done)) | (refine congrArg (fun n => PV.one (.d (.int .i64 n))) ?_; first | rfl | omega | (simp; done)))
 · exact Nat.zero_le _
 intro i hx
 try dsimp only at hx ⊢
 have hl_ : (b ++ [128] ++ List.replicate i 0).length = b.length + 1 + i := by simp; omega
 have hk_ : padK b.length ≤ 63 := by unfold padK; omega
 refine T.seq ?_
 refine T.seq ?_
 refine T.region ?_
 refine TL.mv (.one (.row 1006 [])) ?_
 refine TL.c (Step.len (e := 5) (z := 1) (d := (.ints .u8 (b ++ [128] ++ List.replicate i 0))) rfl rfl (lt_ok rfl) (by kernel_rfl) rfl rfl) ?_
 refine TL.c (Step.bin (r := .int .i64 (((b ++ [128] ++ List.replicate i 0).length : Int) % 64)) rfl rfl (lt_ok rfl) rfl rfl (Bin.rem (k := .i64) (a := ((b ++ [128] ++ List.replicate i 0).length : Int)) (b := 64) (by decide) (Int.tmod_eq_emod_of_nonneg (by first | omega | (simp; omega))))) ?_
 refine TL.b _ (Bin.neq (k := .i64) (a := (((b ++ [128] ++ List.replicate i 0).length : Int) % 64)) (b := 56)) ?_
 refine TL.nil ?_
 refine T.ci rfl (fun h1 => ?_) (fun h1 => ?_)
 ·
  refine T.skip ?_
  refine T.block ?_
  refine T.region ?_
  refine TL.mv (.one (.row 1006 [])) ?_
  refine TL.c (Step.lit (e := 5) (z := 1) (by_ := 1) (xs := [.const (.int .u8 0)]) (pss := [[.d (.int .u8 0)]]) (es := [(.int .u8 0)]) (ss := []) (d := (.ints .u8 [0])) rfl rfl (lt_ok rfl) (by kernel_rfl) rfl rfl (.cons rfl .nil) (by simp) (le_ok rfl) (le_ok rfl) rfl (.val rfl .nil) rfl (by simp) (by simp) rfl trivial rfl rfl) ?_
  refine TL.c (Step.append (e := 5) (z := 1) (by_ := 1) (d := (.ints .u8 (b ++ [128] ++ List.replicate i 0))) (dy := (.ints .u8 [0])) (d' := (.ints .u8 ((b ++ [128] ++ List.replicate i 0) ++ [0]))) (ss := []) rfl rfl (lt_ok rfl) (by kernel_rfl) rfl rfl rfl (lt_ok rfl) rfl (.copy rfl rfl rfl (by simp [D.flat, D.val])) (by simp) rfl (by simp only [D.size, List.length_map]; first | omega | (simp only [List.length_append, List.length_cons, List.length_nil]; omega) | (simp; omega) | (simp only [List.length_append] at *; omega)) (by simp only [D.size, List.length_map]; first | omega | (simp only [List.length_append, List.length_cons, List.length_nil]; omega) | (simp; omega) | (simp only [List.length_append] at *; omega)) (by simp)) ?_
  refine TL.as (.one (.row 1006 [])) ?_
  refine TL.nil ?_
  refine ⟨i + 1, by (unfold padK at *; omega), by (unfold padK at *; omega), Env.le_mk ⟨rfl, rfl, rfl, trivial⟩ ⟨?_, rfl, trivial⟩ trivial⟩ <;> (first | rfl | (refine congrArg (fun x => some (_, D.ints .u8 x)) ?_; first | (simp; done) | (rw [List.replicate_succ', List.append_assoc, List.append_assoc]; first | done | rfl) | (simp only [List.append_assoc, List.replicate_succ', padB]; done) | (rw [show i = padK b.length from by unfold padK; omega]; simp [padB]; done)) | (refine congrArg (fun n => PV.one (.d (.int .i64 n))) ?_; first | rfl | omega | (simp; done)))
 refine T.exit ?_
 refine T.seq ?_
 refine T.seq ?_
 refine T.region ?_
 refine TL.as (pI 7) ?_
 refine TL.nil ?_
 refine T.block ?_
 refine T.loop (ι := Nat) (fun xx_ => { tm := [(0, (pS b)), (2, (.one (.nil))), (3, (.one (.row 1006 []))), (4, (pI (7 - (xx_ : Int))))], rows := [(1006, (5, (.ints .u8 (b ++ [128] ++ List.replicate (padK b.length) 0 ++ padB b.length xx_)))), (7, (5, (.ints .u8 [128])))], boxes := [] }) (fun xx_ => xx_ ≤ 8) (fun xx_ => 8 - xx_) 0 ?_ ?_ ?_
 · refine Env.le_mk ⟨rfl, rfl, rfl, ?_, trivial⟩ ⟨?_, rfl, trivial⟩ trivial <;> (first | rfl | (refine congrArg (fun x => some (_, D.ints .u8 x)) ?_; first | (simp; done) | (rw [List.replicate_succ', List.append_assoc, List.append_assoc]; first | done | rfl) | (simp only [List.append_assoc, List.replicate_succ', padB]; done) | (rw [show i = padK b.length from by unfold padK at *; omega]; simp [padB]; done)) | (refine congrArg (fun n => PV.one (.d (.int .i64 n))) ?_; first | rfl | omega | (simp; done)))
 · exact Nat.zero_le _
 intro i hx
 try dsimp only at hx ⊢
 have hl_ : (b ++ [128] ++ List.replicate (padK b.length) 0 ++ padB b.length i).length = b.length + 1 + padK b.length + i := by simp [padB_len]; omega
 have hl3_ := padB_len b.length i
 have hk_ : padK b.length ≤ 63 := by unfold padK; omega
 refine T.seq ?_
 refine T.seq ?_
 refine T.region ?_
 refine TL.mv (pI (7 - (i : Int))) ?_
 refine TL.b _ (Bin.geq (k := .i64) (a := (7 - (i : Int))) (b := 0)) ?_
 refine TL.nil ?_
 refine T.ci rfl (fun h2 => ?_) (fun h2 => ?_)
 ·
  refine T.skip ?_
  refine T.seq ?_
  refine T.block ?_
  refine T.region ?_
  refine TL.mv (.one (.row 1006 [])) ?_
  refine TL.mv (pS b) ?_
  refine TL.c (Step.len (e := 5) (z := 1) (d := (.ints .u8 b)) rfl rfl (lt_ok rfl) (by kernel_rfl) rfl rfl) ?_
  refine TL.c (Step.bin (r := .int .i64 (8 * (b.length : Int))) rfl rfl (lt_ok rfl) rfl rfl (Bin.mul (a := 8) (b := (b.length : Int)) (by first | exact wrap_ok (by first | omega | (simp; omega)) (by first | omega | (simp; omega)) | rfl))) ?_
  refine TL.mv (pI (7 - (i : Int))) ?_
  refine TL.c (Step.bin (r := .int .i64 (8 * (7 - (i : Int)))) rfl rfl (lt_ok rfl) rfl rfl (Bin.mul (a := 8) (b := (7 - (i : Int))) (by first | exact wrap_ok (by first | omega | (simp; omega)) (by first | omega | (simp; omega)) | rfl))) ?_
  refine TL.c (Step.bin (r := .int .i64 (bshr (8 * (b.length : Int)) (8 * (7 - (i : Int))))) rfl rfl (lt_ok rfl) rfl rfl (Bin.shr (k := .i64) (k' := .i64) (a := (8 * (b.length : Int))) (b := (8 * (7 - (i : Int)))) (by first | omega | (simp; omega)) (rfl))) ?_
  refine TL.c (Step.conv (c := ((bshr (8 * (b.length : Int)) (8 * (7 - (i : Int)))) % 256)) rfl rfl (lt_ok rfl) (by kernel_rfl) (by kernel_rfl) rfl (wrap_byte _)) ?_
  refine TL.c (Step.lit (e := 5) (z := 1) (by_ := 1) (xs := [.tmp 27]) (pss := [[.d (.int .u8 ((bshr (8 * (b.length : Int)) (8 * (7 - (i : Int)))) % 256))]]) (es := [(.int .u8 ((bshr (8 * (b.length : Int)) (8 * (7 - (i : Int)))) % 256))]) (ss := []) (d := (.ints .u8 [(bshr (8 * (b.length : Int)) (8 * (7 - (i : Int)))) % 256])) rfl rfl (lt_ok rfl) (by kernel_rfl) rfl rfl (.cons rfl .nil) (by simp) (le_ok rfl) (le_ok rfl) rfl (.val rfl .nil) rfl (by simp) (by simp) rfl trivial rfl rfl) ?_
  refine TL.c (Step.append (e := 5) (z := 1) (by_ := 1) (d := (.ints .u8 (b ++ [128] ++ List.replicate (padK b.length) 0 ++ padB b.length i))) (dy := (.ints .u8 [(bshr (8 * (b.length : Int)) (8 * (7 - (i : Int)))) % 256])) (d' := (.ints .u8 ((b ++ [128] ++ List.replicate (padK b.length) 0 ++ padB b.length i) ++ [(bshr (8 * (b.length : Int)) (8 * (7 - (i : Int)))) % 256]))) (ss := []) rfl rfl (lt_ok rfl) (by kernel_rfl) rfl rfl rfl (lt_ok rfl) rfl (.copy rfl rfl rfl (by simp [D.flat, D.val])) (by simp) rfl (by simp only [D.size, List.length_map]; first | omega | (simp only [List.length_append, List.length_cons, List.length_nil]; omega) | (simp; omega) | (simp only [List.length_append] at *; omega)) (by simp only [D.size, List.length_map]; first | omega | (simp only [List.length_append, List.length_cons, List.length_nil]; omega) | (simp; omega) | (simp only [List.length_append] at *; omega)) (by simp)) ?_
  refine TL.as (.one (.row 1006 [])) ?_
  refine TL.nil ?_
  refine T.region ?_
  refine TL.mv (pI (7 - (i : Int))) ?_
  refine TL.c (Step.bin (r := .int .i64 ((7 - (i : Int)) - 1)) rfl rfl (lt_ok rfl) rfl rfl (Bin.sub (a := (7 - (i : Int))) (b := 1) (by first | exact wrap_ok (by first | omega | (simp; omega)) (by first | omega | (simp; omega)) | rfl))) ?_
  refine TL.as (pI ((7 - (i : Int)) - 1)) ?_
  refine TL.nil ?_
  refine ⟨i + 1, by omega, by omega, Env.le_mk ⟨rfl, rfl, rfl, ?_, trivial⟩ ⟨?_, rfl, trivial⟩ trivial⟩ <;> (first | rfl | (refine congrArg (fun x => some (_, D.ints .u8 x)) ?_; first | (simp; done) | (rw [List.replicate_succ', List.append_assoc, List.append_assoc]; first | done | rfl) | (simp only [List.append_assoc, List.replicate_succ', padB]; done) | (rw [show i = padK b.length from by unfold padK at *; omega]; simp [padB]; done)) | (refine congrArg (fun n => PV.one (.d (.int .i64 n))) ?_; first | rfl | omega | (simp; done)))
 refine T.exit ?_
 refine T.seq ?_
 refine T.region ?_
 refine TL.mv (.one (.row 1006 [])) ?_
 refine TL.as (.one (.row 1006 [])) ?_
 refine TL.nil ?_
 refine T.ret ?_
 refine ⟨[(false, [.row 1006 []])], (.cons rfl .nil), rfl, [1006], (RetC.o ?_ .nil)⟩ <;> ((congr 1; unfold shaPad; rw [show i = 8 from by omega]))
theorem ok_impl_isWord (x : Int) : RO Try.prog 189 [.one (.int .i64 x)] [(false, [.rd (.bool (decide (0 ≤ x ∧ x ≤ 4294967295)))])] := by
 refine RO.intro Try.func189 rfl 5 rfl (le_ok rfl) fun w Z => ?_
 refine T.seq ?_
 refine T.region ?_
 refine TL.as (pB false) ?_
 refine TL.nil ?_
 refine T.seq ?_
 refine T.region ?_
 refine TL.mv (pI x) ?_
 refine TL.c (Step.cl (xs := [.tmp 3, .const (.int .i64 0), .const (.int .i64 4294967295)]) (ps := [(pI x), (pI 0), (pI 4294967295)]) (g := .func 117) false (.cons (.one (.d _)) (.cons (.one (.d _)) (.cons (.one (.d _)) .nil))) (ok_impl_within x 0 4294967295)) ?_
 refine TL.as (pB (decide (0 ≤ x ∧ x ≤ 4294967295))) ?_
 refine TL.nil ?_
 refine T.ret ?_
 exact ⟨[(false, [.d (.bool (decide (0 ≤ x ∧ x ≤ 4294967295)))])], (.cons rfl .nil), rfl, [], (RetC.rd' rfl .nil)⟩
theorem ok_impl_rounds  : RO Try.prog 190 [] [(false, [.own 3 (.ints .i64 shaK)])] := by
 refine RO.intro Try.func190 rfl 2 rfl (le_ok rfl) fun w Z => ?_
 refine T.seq ?_
 refine T.region ?_
 refine TL.as (.one (.nil)) ?_
 refine TL.nil ?_
 refine T.seq ?_
 refine T.region ?_
 refine TL.c (Step.lit (e := 3) (z := 1) (by_ := 8) (xs := [.const (.int .i64 1116352408), .const (.int .i64 1899447441), .const (.int .i64 3049323471), .const (.int .i64 3921009573), .const (.int .i64 961987163), .const (.int .i64 1508970993), .const (.int .i64 2453635748), .const (.int .i64 2870763221), .const (.int .i64 3624381080), .const (.int .i64 310598401), .const (.int .i64 607225278), .const (.int .i64 1426881987), .const (.int .i64 1925078388), .const (.int .i64 2162078206), .const (.int .i64 2614888103), .const (.int .i64 3248222580), .const (.int .i64 3835390401), .const (.int .i64 4022224774), .const (.int .i64 264347078), .const (.int .i64 604807628), .const (.int .i64 770255983), .const (.int .i64 1249150122), .const (.int .i64 1555081692), .const (.int .i64 1996064986), .const (.int .i64 2554220882), .const (.int .i64 2821834349), .const (.int .i64 2952996808), .const (.int .i64 3210313671), .const (.int .i64 3336571891), .const (.int .i64 3584528711), .const (.int .i64 113926993), .const (.int .i64 338241895), .const (.int .i64 666307205), .const (.int .i64 773529912), .const (.int .i64 1294757372), .const (.int .i64 1396182291), .const (.int .i64 1695183700), .const (.int .i64 1986661051), .const (.int .i64 2177026350), .const (.int .i64 2456956037), .const (.int .i64 2730485921), .const (.int .i64 2820302411), .const (.int .i64 3259730800), .const (.int .i64 3345764771), .const (.int .i64 3516065817), .const (.int .i64 3600352804), .const (.int .i64 4094571909), .const (.int .i64 275423344), .const (.int .i64 430227734), .const (.int .i64 506948616), .const (.int .i64 659060556), .const (.int .i64 883997877), .const (.int .i64 958139571), .const (.int .i64 1322822218), .const (.int .i64 1537002063), .const (.int .i64 1747873779), .const (.int .i64 1955562222), .const (.int .i64 2024104815), .const (.int .i64 2227730452), .const (.int .i64 2361852424), .const (.int .i64 2428436474), .const (.int .i64 2756734187), .const (.int .i64 3204031479), .const (.int .i64 3329325298)]) (pss := [[cI 1116352408], [cI 1899447441], [cI 3049323471], [cI 3921009573], [cI 961987163], [cI 1508970993], [cI 2453635748], [cI 2870763221], [cI 3624381080], [cI 310598401], [cI 607225278], [cI 1426881987], [cI 1925078388], [cI 2162078206], [cI 2614888103], [cI 3248222580], [cI 3835390401], [cI 4022224774], [cI 264347078], [cI 604807628], [cI 770255983], [cI 1249150122], [cI 1555081692], [cI 1996064986], [cI 2554220882], [cI 2821834349], [cI 2952996808], [cI 3210313671], [cI 3336571891], [cI 3584528711], [cI 113926993], [cI 338241895], [cI 666307205], [cI 773529912], [cI 1294757372], [cI 1396182291], [cI 1695183700], [cI 1986661051], [cI 2177026350], [cI 2456956037], [cI 2730485921], [cI 2820302411], [cI 3259730800], [cI 3345764771], [cI 3516065817], [cI 3600352804], [cI 4094571909], [cI 275423344], [cI 430227734], [cI 506948616], [cI 659060556], [cI 883997877], [cI 958139571], [cI 1322822218], [cI 1537002063], [cI 1747873779], [cI 1955562222], [cI 2024104815], [cI 2227730452], [cI 2361852424], [cI 2428436474], [cI 2756734187], [cI 3204031479], [cI 3329325298]]) (es := [(.int .i64 1116352408), (.int .i64 1899447441), (.int .i64 3049323471), (.int .i64 3921009573), (.int .i64 961987163), (.int .i64 1508970993), (.int .i64 2453635748), (.int .i64 2870763221), (.int .i64 3624381080), (.int .i64 310598401), (.int .i64 607225278), (.int .i64 1426881987), (.int .i64 1925078388), (.int .i64 2162078206), (.int .i64 2614888103), (.int .i64 3248222580), (.int .i64 3835390401), (.int .i64 4022224774), (.int .i64 264347078), (.int .i64 604807628), (.int .i64 770255983), (.int .i64 1249150122), (.int .i64 1555081692), (.int .i64 1996064986), (.int .i64 2554220882), (.int .i64 2821834349), (.int .i64 2952996808), (.int .i64 3210313671), (.int .i64 3336571891), (.int .i64 3584528711), (.int .i64 113926993), (.int .i64 338241895), (.int .i64 666307205), (.int .i64 773529912), (.int .i64 1294757372), (.int .i64 1396182291), (.int .i64 1695183700), (.int .i64 1986661051), (.int .i64 2177026350), (.int .i64 2456956037), (.int .i64 2730485921), (.int .i64 2820302411), (.int .i64 3259730800), (.int .i64 3345764771), (.int .i64 3516065817), (.int .i64 3600352804), (.int .i64 4094571909), (.int .i64 275423344), (.int .i64 430227734), (.int .i64 506948616), (.int .i64 659060556), (.int .i64 883997877), (.int .i64 958139571), (.int .i64 1322822218), (.int .i64 1537002063), (.int .i64 1747873779), (.int .i64 1955562222), (.int .i64 2024104815), (.int .i64 2227730452), (.int .i64 2361852424), (.int .i64 2428436474), (.int .i64 2756734187), (.int .i64 3204031479), (.int .i64 3329325298)]) (ss := []) (d := (.ints .i64 [1116352408, 1899447441, 3049323471, 3921009573, 961987163, 1508970993, 2453635748, 2870763221, 3624381080, 310598401, 607225278, 1426881987, 1925078388, 2162078206, 2614888103, 3248222580, 3835390401, 4022224774, 264347078, 604807628, 770255983, 1249150122, 1555081692, 1996064986, 2554220882, 2821834349, 2952996808, 3210313671, 3336571891, 3584528711, 113926993, 338241895, 666307205, 773529912, 1294757372, 1396182291, 1695183700, 1986661051, 2177026350, 2456956037, 2730485921, 2820302411, 3259730800, 3345764771, 3516065817, 3600352804, 4094571909, 275423344, 430227734, 506948616, 659060556, 883997877, 958139571, 1322822218, 1537002063, 1747873779, 1955562222, 2024104815, 2227730452, 2361852424, 2428436474, 2756734187, 3204031479, 3329325298])) rfl rfl (lt_ok rfl) (by kernel_rfl) rfl rfl (.cons rfl (.cons rfl (.cons rfl (.cons rfl (.cons rfl (.cons rfl (.cons rfl (.cons rfl (.cons rfl (.cons rfl (.cons rfl (.cons rfl (.cons rfl (.cons rfl (.cons rfl (.cons rfl (.cons rfl (.cons rfl (.cons rfl (.cons rfl (.cons rfl (.cons rfl (.cons rfl (.cons rfl (.cons rfl (.cons rfl (.cons rfl (.cons rfl (.cons rfl (.cons rfl (.cons rfl (.cons rfl (.cons rfl (.cons rfl (.cons rfl (.cons rfl (.cons rfl (.cons rfl (.cons rfl (.cons rfl (.cons rfl (.cons rfl (.cons rfl (.cons rfl (.cons rfl (.cons rfl (.cons rfl (.cons rfl (.cons rfl (.cons rfl (.cons rfl (.cons rfl (.cons rfl (.cons rfl (.cons rfl (.cons rfl (.cons rfl (.cons rfl (.cons rfl (.cons rfl (.cons rfl (.cons rfl (.cons rfl (.cons rfl .nil)))))))))))))))))))))))))))))))))))))))))))))))))))))))))))))))) (by simp) (le_ok rfl) (le_ok rfl) rfl (.val rfl (.val rfl (.val rfl (.val rfl (.val rfl (.val rfl (.val rfl (.val rfl (.val rfl (.val rfl (.val rfl (.val rfl (.val rfl (.val rfl (.val rfl (.val rfl (.val rfl (.val rfl (.val rfl (.val rfl (.val rfl (.val rfl (.val rfl (.val rfl (.val rfl (.val rfl (.val rfl (.val rfl (.val rfl (.val rfl (.val rfl (.val rfl (.val rfl (.val rfl (.val rfl (.val rfl (.val rfl (.val rfl (.val rfl (.val rfl (.val rfl (.val rfl (.val rfl (.val rfl (.val rfl (.val rfl (.val rfl (.val rfl (.val rfl (.val rfl (.val rfl (.val rfl (.val rfl (.val rfl (.val rfl (.val rfl (.val rfl (.val rfl (.val rfl (.val rfl (.val rfl (.val rfl (.val rfl (.val rfl .nil)))))))))))))))))))))))))))))))))))))))))))))))))))))))))))))))) rfl (by simp) (by simp) rfl trivial rfl rfl) ?_
 refine TL.as (.one (.row 1 [])) ?_
 refine TL.nil ?_
 refine T.ret ?_
 refine ⟨[(false, [.row 1 []])], (.cons rfl .nil), rfl, [1], (RetC.o ?_ .nil)⟩ <;> (rfl)
theorem ok_impl_TurnRight (x : Int) (n : Int) (h0_ : 0 ≤ x ∧ x ≤ 4294967295) (h1_ : 0 ≤ n ∧ n ≤ 31) : RO Try.prog 191 [.one (.int .i64 x), .one (.int .i64 n)] [(false, [.rd (.int .i64 (turnW x n))])] := by
 refine RO.intro Try.func191 rfl 22 rfl (le_ok rfl) fun w Z => ?_
 refine T.seq ?_
 refine T.region ?_
 refine TL.as (pI 0) ?_
 refine TL.nil ?_
 refine T.seq ?_
 refine T.seq ?_
 refine T.region ?_
 refine TL.mv (pI x) ?_
 refine TL.c (Step.cl (xs := [.tmp 5]) (ps := [(pI x)]) (g := .func 189) false (.cons (.one (.d _)) .nil) (ok_impl_isWord x)) ?_
 refine TL.c (Step.not (b := (decide (0 ≤ x ∧ x ≤ 4294967295))) rfl rfl (lt_ok rfl) rfl) ?_
 refine TL.mv (pB (!(decide (0 ≤ x ∧ x ≤ 4294967295)))) ?_
 rcases Bool.eq_false_or_eq_true (!(decide (0 ≤ x ∧ x ≤ 4294967295))) with hb1 | hb1
 ·
  refine TL.known 8 hb1 rfl ?_
  have hb1' := hb1
  replace hb1' : (decide (0 ≤ x ∧ x ≤ 4294967295)) = false := by simpa only [Bool.not_eq_true', Bool.not_eq_false'] using hb1'
  replace hb1' := of_decide_eq_false hb1'
  refine TL.gf 8 ?_
  refine TL.gf 8 ?_
  refine TL.gf 8 ?_
  refine TL.pk true (pB true) ?_
  refine TL.nil ?_
  refine T.ct ?_
  refine T.seq ?_
  refine T.region ?_
  refine TL.as (pI 0) ?_
  refine TL.nil ?_
  refine T.ret ?_
  refine ⟨[(false, [cI 0])], (.cons rfl .nil), rfl, [], (RetC.r ?_ .nil)⟩ <;> (first | rfl | (exfalso; omega))
 refine TL.known 8 hb1 rfl ?_
 have hb1' := hb1
 replace hb1' : (decide (0 ≤ x ∧ x ≤ 4294967295)) = true := by simpa only [Bool.not_eq_true', Bool.not_eq_false'] using hb1'
 replace hb1' := of_decide_eq_true hb1'
 refine TL.gm 8 (pI n) ?_
 refine TL.gy 8 (Step.cl (xs := [.tmp 9, .const (.int .i64 0), .const (.int .i64 31)]) (ps := [(pI n), (pI 0), (pI 31)]) (g := .func 117) false (.cons (.one (.d _)) (.cons (.one (.d _)) (.cons (.one (.d _)) .nil))) (ok_impl_within n 0 31)) ?_
 refine TL.gy 8 (Step.not (b := (decide (0 ≤ n ∧ n ≤ 31))) rfl rfl (lt_ok rfl) rfl) ?_
 refine TL.pk false (pB (!(decide (0 ≤ n ∧ n ≤ 31)))) ?_
 refine TL.nil ?_
 refine T.cni rfl (fun h2 => ?_) (fun h2 => ?_)
 ·
  refine T.seq ?_
  refine T.region ?_
  refine TL.as (pI 0) ?_
  refine TL.nil ?_
  refine T.ret ?_
  refine ⟨[(false, [cI 0])], (.cons rfl .nil), rfl, [], (RetC.r ?_ .nil)⟩ <;> (first | rfl | (exfalso; omega))
 refine T.skip ?_
 refine T.seq ?_
 refine T.draw [⟨13, (pI x), []⟩, ⟨14, (pI n), []⟩, ⟨15, (pI (bshr x n)), []⟩, ⟨16, (pI x), []⟩, ⟨17, (pI n), []⟩, ⟨18, (pI (32 - n)), []⟩, ⟨19, (pI (bshl x (32 - n))), []⟩, ⟨20, (pI (bor (bshr x n) (bshl x (32 - n)))), []⟩, ⟨21, (pI (band (bor (bshr x n) (bshl x (32 - n))) 4294967295)), []⟩, ⟨4, (pI (band (bor (bshr x n) (bshl x (32 - n))) 4294967295)), []⟩] (by kernel_rfl) (by kernel_rfl) ?_ ?_
 ·
  refine .cons (fun E A => A.mv 0 13) ?_
  refine .cons (fun E A => A.mv 1 14) ?_
  refine .cons (fun E A => OpStep.plain rfl (Step.bd (r := .int .i64 (bshr x n)) 15 (A.g 13 rfl) (A.g 14 rfl) (Bin.shr (k := .i64) (k' := .i64) (a := x) (b := n) (by first | omega | (simp; omega)) (rfl)))) ?_
  refine .cons (fun E A => A.mv 0 16) ?_
  refine .cons (fun E A => A.mv 1 17) ?_
  refine .cons (fun E A => OpStep.plain rfl (Step.bd (r := .int .i64 (32 - n)) 18 rfl (A.g 17 rfl) (Bin.sub (a := 32) (b := n) (by first | exact wrap_ok (by first | omega | (simp; omega)) (by first | omega | (simp; omega)) | rfl)))) ?_
  refine .cons (fun E A => OpStep.plain rfl (Step.bd (r := .int .i64 (bshl x (32 - n))) 19 (A.g 16 rfl) (A.g 18 rfl) (Bin.shl (k := .i64) (k' := .i64) (a := x) (b := (32 - n)) (by first | omega | (simp; omega)) (rfl)))) ?_
  refine .cons (fun E A => OpStep.plain rfl (Step.bd (r := .int .i64 (bor (bshr x n) (bshl x (32 - n)))) 20 (A.g 15 rfl) (A.g 19 rfl) (Bin.or (k := .i64) (a := (bshr x n)) (b := (bshl x (32 - n))) (rfl)))) ?_
  refine .cons (fun E A => OpStep.plain rfl (Step.bd (r := .int .i64 (band (bor (bshr x n) (bshl x (32 - n))) 4294967295)) 21 (A.g 20 rfl) rfl (Bin.and (k := .i64) (a := (bor (bshr x n) (bshl x (32 - n)))) (b := 4294967295) (rfl)))) ?_
  refine .cons (fun E A => A.as 21 4) ?_
  exact .nil _ _
 refine TL.nil ?_
 refine T.ret ?_
 refine ⟨[(false, [cI (band (bor (bshr x n) (bshl x (32 - n))) 4294967295)])], (.cons rfl .nil), rfl, [], (RetC.r ?_ .nil)⟩ <;> (first | rfl | (exfalso; omega))
theorem ok_impl_ShaBlock (h : List Int) (b : List Int) (h0_ : U8s b) : RO Try.prog 152 [.one (.ints .i64 h), .one (.ints .u8 b)] [(false, [.own 3 (.ints .i64 (shaBlock h b))])] := by
 refine RO.intro Try.func152 rfl 235 rfl (le_ok rfl) fun w Z => ?_
 refine T.bnd 0 0 rfl rfl fun hb_0_0 => ?_
 simp only [D.size, List.length_map] at hb_0_0
 refine T.bnd 1 0 rfl rfl fun hb_1_0 => ?_
 simp only [D.size, List.length_map] at hb_1_0
 refine T.seq ?_
 refine T.region ?_
 refine TL.as (.one (.nil)) ?_
 refine TL.nil ?_
 refine T.seq ?_
 refine T.seq ?_
 refine T.region ?_
 refine TL.mv (.one (.d (.ints .i64 h))) ?_
 refine TL.c (Step.len (e := 3) (z := 1) (d := (.ints .i64 h)) rfl rfl (lt_ok rfl) (by kernel_rfl) rfl rfl) ?_
 refine TL.b _ (Bin.neq (k := .i64) (a := (h.length : Int)) (b := 8)) ?_
 refine TL.mv (pB (decide ((h.length : Int) ≠ 8))) ?_
 rcases Bool.eq_false_or_eq_true (decide ((h.length : Int) ≠ 8)) with hb1 | hb1
 ·
  refine TL.known 28 hb1 rfl ?_
  have hb1' := hb1
  replace hb1' := of_decide_eq_true hb1'
  refine TL.gf 28 ?_
  refine TL.gf 28 ?_
  refine TL.gf 28 ?_
  refine TL.pk true (pB true) ?_
  refine TL.nil ?_
  refine T.ct ?_
  refine T.seq ?_
  refine T.region ?_
  refine TL.as (.one (.nil)) ?_
  refine TL.nil ?_
  refine T.ret ?_
  refine ⟨[(false, [.nil])], (.cons rfl .nil), rfl, [], (RetC.nn ?_ .nil)⟩ <;> (first | (rw [shaBlock_yes (h := h) (b := b) ⟨by omega, by omega, hwo_⟩, show i = 8 from by omega]; done) | (simp only [D.size]; first | (rw [shaBlock_no (fun h_ => by have := h_.1; have := h_.2.1; omega)]; rfl) | (rw [shaBlock_no (fun h_ => by have := h_.2.2; rw [words_no (i := i) (by omega) (by omega)] at this; cases this)]; rfl)))
 refine TL.known 28 hb1 rfl ?_
 have hb1' := hb1
 replace hb1' := of_decide_eq_false hb1'
 refine TL.gm 28 (pS b) ?_
 refine TL.gy 28 (Step.len (e := 5) (z := 1) (d := (.ints .u8 b)) rfl rfl (lt_ok rfl) (by kernel_rfl) rfl rfl) ?_
 refine TL.gy 28 (Step.bin rfl rfl (lt_ok rfl) rfl rfl (Bin.neq (k := .i64) (a := (b.length : Int)) (b := 64))) ?_
 refine TL.pk false (pB (decide ((b.length : Int) ≠ 64))) ?_
 refine TL.nil ?_
 refine T.ci rfl (fun h2 => ?_) (fun h2 => ?_)
 ·
  refine T.seq ?_
  refine T.region ?_
  refine TL.as (.one (.nil)) ?_
  refine TL.nil ?_
  refine T.ret ?_
  refine ⟨[(false, [.nil])], (.cons rfl .nil), rfl, [], (RetC.nn ?_ .nil)⟩ <;> (first | (rw [shaBlock_yes (h := h) (b := b) ⟨by omega, by omega, hwo_⟩, show i = 8 from by omega]; done) | (simp only [D.size]; first | (rw [shaBlock_no (fun h_ => by have := h_.1; have := h_.2.1; omega)]; rfl) | (rw [shaBlock_no (fun h_ => by have := h_.2.2; rw [words_no (i := i) (by omega) (by omega)] at this; cases this)]; rfl)))
 refine T.skip ?_
 refine T.seq ?_
 refine T.seq ?_
 refine T.region ?_
 refine TL.mv (.one (.d (.ints .i64 h))) ?_
 refine TL.c (Step.len (e := 3) (z := 1) (d := (.ints .i64 h)) rfl rfl (lt_ok rfl) (by kernel_rfl) rfl rfl) ?_
 refine TL.mv (pI 0) ?_
 refine TL.nil ?_
 refine T.block ?_
 refine T.loop (ι := Nat) (fun xx_ => { tm := [(0, (.one (.d (.ints .i64 h)))), (1, (pS b)), (33, (.one (.d (.ints .i64 h)))), (34, (pI (h.length : Int))), (35, (pI (xx_ : Int)))], rows := [], boxes := [] }) (fun xx_ => xx_ ≤ h.length ∧ wordsOk (h.take xx_) = true) (fun xx_ => h.length - xx_) 0 ?_ ?_ ?_
 · refine Env.le_mk ⟨rfl, rfl, rfl, rfl, ?_, trivial⟩ trivial trivial <;> (first | rfl | (simp; done) | (congr 3; omega))
 · (refine ⟨Nat.zero_le _, by rw [List.take_zero]; rfl⟩)
 intro i hx
 try dsimp only at hx ⊢
 obtain ⟨hx1, hx2⟩ := hx
 refine T.seq ?_
 refine T.region ?_
 refine TL.b _ (Bin.lss (k := .i64) (a := (i : Int)) (b := (h.length : Int))) ?_
 refine TL.nil ?_
 refine T.seq ?_
 refine T.ci rfl (fun h3 => ?_) (fun h3 => ?_)
 ·
  refine T.skip ?_
  refine T.seq ?_
  refine T.block ?_
  refine T.seq ?_
  refine T.region ?_
  refine TL.c (Step.index (e := 3) (z := 1) (i := (i : Int)) rfl rfl (lt_ok rfl) (by kernel_rfl) rfl rfl rfl (lt_ok rfl) rfl (by first | omega | (simp; omega) | (simp [w16_len, wN_len]; omega)) (by simp only [D.size]; first | omega | (simp; omega) | (simp [w16_len, wN_len]; omega))) ?_
  refine TL.c (Step.load (e := (.int .i64 (h.getD i 0))) rfl rfl (lt_ok rfl) (by kernel_rfl) rfl rfl) ?_
  refine TL.as (pI (h.getD i 0)) ?_
  refine TL.nil ?_
  refine T.seq ?_
  refine T.region ?_
  refine TL.mv (pI (h.getD i 0)) ?_
  refine TL.c (Step.cl (xs := [.tmp 39]) (ps := [(pI (h.getD i 0))]) (g := .func 189) false (.cons (.one (.d _)) .nil) (ok_impl_isWord (h.getD i 0))) ?_
  refine TL.c (Step.not (b := (decide (0 ≤ (h.getD i 0) ∧ (h.getD i 0) ≤ 4294967295))) rfl rfl (lt_ok rfl) rfl) ?_
  refine TL.nil ?_
  refine T.cni rfl (fun h4 => ?_) (fun h4 => ?_)
  ·
   refine T.seq ?_
   refine T.region ?_
   refine TL.as (.one (.nil)) ?_
   refine TL.nil ?_
   refine T.ret ?_
   refine ⟨[(false, [.nil])], (.cons rfl .nil), rfl, [], (RetC.nn ?_ .nil)⟩ <;> (first | (rw [shaBlock_yes (h := h) (b := b) ⟨by omega, by omega, hwo_⟩, show i = 8 from by omega]; done) | (simp only [D.size]; first | (rw [shaBlock_no (fun h_ => by have := h_.1; have := h_.2.1; omega)]; rfl) | (rw [shaBlock_no (fun h_ => by have := h_.2.2; rw [words_no (i := i) (by omega) (by omega)] at this; cases this)]; rfl)))
  refine T.skip ?_
  refine T.region ?_
  refine TL.c (Step.bin (r := .int .i64 ((i : Int) + 1)) rfl rfl (lt_ok rfl) rfl rfl (Bin.add (a := (i : Int)) (b := 1) (by first | exact wrap_ok (by first | omega | (simp; omega) | (simp [w16_len, wN_len]; omega)) (by first | omega | (simp; omega) | (simp [w16_len, wN_len]; omega)) | rfl))) ?_
  refine TL.mv (pI ((i : Int) + 1)) ?_
  refine TL.nil ?_
  refine ⟨i + 1, by (refine ⟨by omega, words_step (by omega) hx2 (by omega)⟩), by first | omega | (dsimp only; omega), Env.le_mk ⟨rfl, rfl, rfl, rfl, ?_, trivial⟩ trivial trivial⟩ <;> (first | rfl | (simp; done) | (congr 3; omega))
 refine T.exit ?_
 refine T.seq ?_
 refine T.region ?_
 refine TL.c (Step.buildArr (zs := List.replicate 64 (.int .i64 0)) (size := 1) (pss := []) (ps' := (List.replicate 64 (.d (.int .i64 0)))) rfl rfl (lt_ok rfl) (by kernel_rfl) .nil rfl (by kernel_rfl) (by kernel_rfl)) ?_
 refine TL.c (Step.cl (xs := []) (ps := []) (g := .func 190) false .nil (ok_impl_rounds )) ?_
 refine TL.c (Step.buildArr (zs := List.replicate 8 (.int .i64 0)) (size := 1) (pss := []) (ps' := [cI 0, cI 0, cI 0, cI 0, cI 0, cI 0, cI 0, cI 0]) rfl rfl (lt_ok rfl) (by kernel_rfl) .nil rfl (by kernel_rfl) (by kernel_rfl)) ?_
 refine TL.c (Step.allocArr (zs := List.replicate 64 (.int .i64 0)) (zd := List.replicate 64 (.int .i64 0)) (d := (.ints .i64 (List.replicate 64 0))) rfl rfl (lt_ok rfl) (by kernel_rfl) (zeroB_ok _ _ (by kernel_rfl)) (by kernel_rfl) rfl trivial (by decide) (by decide) (by decide) rfl (by simp)) ?_
 refine TL.c (Step.allocArr (zs := List.replicate 8 (.int .i64 0)) (zd := List.replicate 8 (.int .i64 0)) (d := (.ints .i64 (List.replicate 8 0))) rfl rfl (lt_ok rfl) (by kernel_rfl) (zeroB_ok _ _ (by kernel_rfl)) (by kernel_rfl) rfl trivial (by decide) (by decide) (by decide) rfl (by simp)) ?_
 refine TL.c (Step.store_row (n := 64) (p := (.agg (List.replicate 64 (.d (.int .i64 0))))) (ps := (List.replicate 64 (.d (.int .i64 0)))) (es := (List.replicate 64 ((.int .i64 0)))) (ss := []) (d1 := (.ints .i64 (List.replicate 64 (0)))) (d' := (.ints .i64 (List.replicate 64 (0)))) rfl rfl (by kernel_rfl) rfl rfl rfl rfl rfl rfl (.val rfl (.val rfl (.val rfl (.val rfl (.val rfl (.val rfl (.val rfl (.val rfl (.val rfl (.val rfl (.val rfl (.val rfl (.val rfl (.val rfl (.val rfl (.val rfl (.val rfl (.val rfl (.val rfl (.val rfl (.val rfl (.val rfl (.val rfl (.val rfl (.val rfl (.val rfl (.val rfl (.val rfl (.val rfl (.val rfl (.val rfl (.val rfl (.val rfl (.val rfl (.val rfl (.val rfl (.val rfl (.val rfl (.val rfl (.val rfl (.val rfl (.val rfl (.val rfl (.val rfl (.val rfl (.val rfl (.val rfl (.val rfl (.val rfl (.val rfl (.val rfl (.val rfl (.val rfl (.val rfl (.val rfl (.val rfl (.val rfl (.val rfl (.val rfl (.val rfl (.val rfl (.val rfl (.val rfl (.val rfl .nil)))))))))))))))))))))))))))))))))))))))))))))))))))))))))))))))) (by simp) (by have h_ := Putd.all (k := .i64) (xs := List.replicate 64 0) (ys := (List.replicate 64 (0))) (by first | exact hl_ | rfl); exact h_) rfl) ?_
 refine TL.as (.one (.row 1044 [])) ?_
 refine TL.c (Step.store_row (n := 8) (p := (.agg [cI 0, cI 0, cI 0, cI 0, cI 0, cI 0, cI 0, cI 0])) (ps := [cI 0, cI 0, cI 0, cI 0, cI 0, cI 0, cI 0, cI 0]) (es := [(.int .i64 0), (.int .i64 0), (.int .i64 0), (.int .i64 0), (.int .i64 0), (.int .i64 0), (.int .i64 0), (.int .i64 0)]) (ss := []) (d1 := (.ints .i64 [0, 0, 0, 0, 0, 0, 0, 0])) (d' := (.ints .i64 [0, 0, 0, 0, 0, 0, 0, 0])) rfl rfl (by kernel_rfl) rfl rfl rfl rfl rfl rfl (.val rfl (.val rfl (.val rfl (.val rfl (.val rfl (.val rfl (.val rfl (.val rfl .nil)))))))) (by simp) (by have h_ := Putd.all (k := .i64) (xs := List.replicate 8 0) (ys := [0, 0, 0, 0, 0, 0, 0, 0]) (by first | exact hvl_ | exact hvl_.symm | rfl | (simp; done)); exact h_) rfl) ?_
 refine TL.nil ?_
 refine T.wk [(0, (.one (.d (.ints .i64 h)))), (1, (pS b)), (7, (.one (.rptr 7 [] 0 0))), (9, (.one (.rptr 9 [] 0 0))), (8, (.one (.row 1044 [])))] [(1044, (3, (.ints .i64 shaK))), (7, (170, (.ints .i64 (List.replicate 64 (0))))), (9, (171, (.ints .i64 [0, 0, 0, 0, 0, 0, 0, 0])))] [] ?_
 refine T.seq ?_
 refine T.seq ?_
 refine T.region ?_
 refine TL.mv (pI 0) ?_
 refine TL.nil ?_
 refine T.block ?_
 refine T.loop (ι := Nat) (fun xx_ => { tm := [(0, (.one (.d (.ints .i64 h)))), (1, (pS b)), (7, (.one (.rptr 7 [] 0 0))), (9, (.one (.rptr 9 [] 0 0))), (8, (.one (.row 1044 []))), (46, (pI (xx_ : Int)))], rows := [(1044, (3, (.ints .i64 shaK))), (7, (170, (.ints .i64 (aI b xx_)))), (9, (171, (.ints .i64 [0, 0, 0, 0, 0, 0, 0, 0])))], boxes := [] }) (fun xx_ => xx_ ≤ 16) (fun xx_ => 16 - xx_) 0 ?_ ?_ ?_
 · refine Env.le_mk ⟨rfl, rfl, rfl, rfl, rfl, ?_, trivial⟩ ⟨rfl, ?_, rfl, trivial⟩ trivial <;> (first | exact congrArg (fun x => some (_, D.ints .i64 x)) (aI_zero b) | exact congrArg (fun x => some (_, D.ints .i64 x)) (aI_set b (by omega)) | rfl | (refine congrArg (fun x => some (_, D.ints .i64 x)) ?_; first | rfl | fail) | (refine congrArg (fun n => PV.one (.d (.int .i64 n))) ?_; first | rfl | omega | (simp; done)))
 · exact Nat.zero_le _
 intro i hx
 try dsimp only at hx ⊢
 have hwo_ : wordsOk h = true := by rw [List.take_of_length_le (by omega)] at hx2; exact hx2
 have hl_ := aI_len b hx
 have hu0_ := getD_u8 h0_ (4 * (i : Int)).toNat
 have hu1_ := getD_u8 h0_ (4 * (i : Int) + 1).toNat
 have hu2_ := getD_u8 h0_ (4 * (i : Int) + 2).toNat
 have hu3_ := getD_u8 h0_ (4 * (i : Int) + 3).toNat
 refine T.seq ?_
 refine T.region ?_
 refine TL.b _ (Bin.lss (k := .i64) (a := (i : Int)) (b := 16)) ?_
 refine TL.nil ?_
 refine T.seq ?_
 refine T.ci rfl (fun h5 => ?_) (fun h5 => ?_)
 ·
  refine T.skip ?_
  refine T.seq ?_
  refine T.block ?_
  refine T.seq ?_
  refine T.region ?_
  refine TL.mv (pI (i : Int)) ?_
  refine TL.as (pI (i : Int)) ?_
  refine TL.nil ?_
  obtain ⟨y6, hy6_⟩ : ∃ y_, y_ = bshl (b.getD (4 * (i : Int)).toNat 0) 24 := ⟨_, rfl⟩
  obtain ⟨y7, hy7_⟩ : ∃ y_, y_ = bshl (b.getD ((4 * (i : Int)) + 1).toNat 0) 16 := ⟨_, rfl⟩
  obtain ⟨y8, hy8_⟩ : ∃ y_, y_ = bshl (b.getD ((4 * (i : Int)) + 2).toNat 0) 8 := ⟨_, rfl⟩
  obtain ⟨y9, hy9_⟩ : ∃ y_, y_ = bor (bor (bor y6 y7) y8) (b.getD ((4 * (i : Int)) + 3).toNat 0) := ⟨_, rfl⟩
  refine T.draw [⟨49, (pI (i : Int)), []⟩, ⟨50, (pS b), []⟩, ⟨51, (pI (i : Int)), []⟩, ⟨52, (pI (4 * (i : Int))), []⟩, ⟨53, (.one (.eptr (.ints .u8 b) (4 * (i : Int)).toNat 0)), []⟩, ⟨54, (.one (.d (.int .u8 (b.getD (4 * (i : Int)).toNat 0)))), []⟩, ⟨55, (pI (b.getD (4 * (i : Int)).toNat 0)), []⟩, ⟨56, (pI y6), []⟩, ⟨57, (pS b), []⟩, ⟨58, (pI (i : Int)), []⟩, ⟨59, (pI (4 * (i : Int))), []⟩, ⟨60, (pI ((4 * (i : Int)) + 1)), []⟩, ⟨61, (.one (.eptr (.ints .u8 b) ((4 * (i : Int)) + 1).toNat 0)), []⟩, ⟨62, (.one (.d (.int .u8 (b.getD ((4 * (i : Int)) + 1).toNat 0)))), []⟩, ⟨63, (pI (b.getD ((4 * (i : Int)) + 1).toNat 0)), []⟩, ⟨64, (pI y7), []⟩, ⟨65, (pI (bor y6 y7)), []⟩, ⟨66, (pS b), []⟩, ⟨67, (pI (i : Int)), []⟩, ⟨68, (pI (4 * (i : Int))), []⟩, ⟨69, (pI ((4 * (i : Int)) + 2)), []⟩, ⟨70, (.one (.eptr (.ints .u8 b) ((4 * (i : Int)) + 2).toNat 0)), []⟩, ⟨71, (.one (.d (.int .u8 (b.getD ((4 * (i : Int)) + 2).toNat 0)))), []⟩, ⟨72, (pI (b.getD ((4 * (i : Int)) + 2).toNat 0)), []⟩, ⟨73, (pI y8), []⟩, ⟨74, (pI (bor (bor y6 y7) y8)), []⟩, ⟨75, (pS b), []⟩, ⟨76, (pI (i : Int)), []⟩, ⟨77, (pI (4 * (i : Int))), []⟩, ⟨78, (pI ((4 * (i : Int)) + 3)), []⟩, ⟨79, (.one (.eptr (.ints .u8 b) ((4 * (i : Int)) + 3).toNat 0)), []⟩, ⟨80, (.one (.d (.int .u8 (b.getD ((4 * (i : Int)) + 3).toNat 0)))), []⟩, ⟨81, (pI (b.getD ((4 * (i : Int)) + 3).toNat 0)), []⟩, ⟨82, (pI y9), []⟩, ⟨83, (.one (.rptr 7 [] i 0)), []⟩] (by kernel_rfl) (by kernel_rfl) ?_ ?_
  ·
   refine .cons (fun E A => A.mv 10 49) ?_
   refine .cons (fun E A => A.mv 1 50) ?_
   refine .cons (fun E A => A.mv 10 51) ?_
   refine .cons (fun E A => OpStep.plain rfl (Step.bd (r := .int .i64 (4 * (i : Int))) 52 rfl (A.g 51 rfl) (Bin.mul (a := 4) (b := (i : Int)) (by first | exact wrap_ok (by first | omega | (simp; omega) | (simp [w16_len, wN_len]; omega)) (by first | omega | (simp; omega) | (simp [w16_len, wN_len]; omega)) | rfl)))) ?_
   refine .cons (fun E A => OpStep.plain rfl (Step.index (e := 5) (z := 1) (i := (4 * (i : Int))) (t := 53) rfl rfl (by exact lt_ok rfl) (by kernel_rfl) (A.g 50 rfl) rfl rfl (lt_ok rfl) (A.g 52 rfl) (by first | omega | (simp; omega) | (simp [w16_len, wN_len]; omega)) (by simp only [D.size]; first | omega | (simp; omega) | (simp [w16_len, wN_len]; omega)))) ?_
   refine .cons (fun E A => OpStep.plain rfl (Step.load (e := (.int .u8 (b.getD (4 * (i : Int)).toNat 0))) (t := 54) rfl rfl (by exact lt_ok rfl) (by kernel_rfl) (A.g 53 rfl) rfl)) ?_
   refine .cons (fun E A => OpStep.plain rfl (Step.conv (c := (b.getD (4 * (i : Int)).toNat 0)) (t := 55) rfl rfl (by exact lt_ok rfl) (by kernel_rfl) (by kernel_rfl) (A.g 54 rfl) (wrap_ok (by first | omega | (simp; omega) | (simp [w16_len, wN_len]; omega)) (by first | omega | (simp; omega) | (simp [w16_len, wN_len]; omega))))) ?_
   refine .cons (fun E A => OpStep.plain rfl (Step.bd (r := .int .i64 y6) 56 (A.g 55 rfl) rfl (Bin.shl (k := .i64) (k' := .u64) (a := (b.getD (4 * (i : Int)).toNat 0)) (b := 24) (by first | omega | (simp; omega) | (simp [w16_len, wN_len]; omega)) (hy6_.symm)))) ?_
   refine .cons (fun E A => A.mv 1 57) ?_
   refine .cons (fun E A => A.mv 10 58) ?_
   refine .cons (fun E A => OpStep.plain rfl (Step.bd (r := .int .i64 (4 * (i : Int))) 59 rfl (A.g 58 rfl) (Bin.mul (a := 4) (b := (i : Int)) (by first | exact wrap_ok (by first | omega | (simp; omega) | (simp [w16_len, wN_len]; omega)) (by first | omega | (simp; omega) | (simp [w16_len, wN_len]; omega)) | rfl)))) ?_
   refine .cons (fun E A => OpStep.plain rfl (Step.bd (r := .int .i64 ((4 * (i : Int)) + 1)) 60 (A.g 59 rfl) rfl (Bin.add (a := (4 * (i : Int))) (b := 1) (by first | exact wrap_ok (by first | omega | (simp; omega) | (simp [w16_len, wN_len]; omega)) (by first | omega | (simp; omega) | (simp [w16_len, wN_len]; omega)) | rfl)))) ?_
   refine .cons (fun E A => OpStep.plain rfl (Step.index (e := 5) (z := 1) (i := ((4 * (i : Int)) + 1)) (t := 61) rfl rfl (by exact lt_ok rfl) (by kernel_rfl) (A.g 57 rfl) rfl rfl (lt_ok rfl) (A.g 60 rfl) (by first | omega | (simp; omega) | (simp [w16_len, wN_len]; omega)) (by simp only [D.size]; first | omega | (simp; omega) | (simp [w16_len, wN_len]; omega)))) ?_
   refine .cons (fun E A => OpStep.plain rfl (Step.load (e := (.int .u8 (b.getD ((4 * (i : Int)) + 1).toNat 0))) (t := 62) rfl rfl (by exact lt_ok rfl) (by kernel_rfl) (A.g 61 rfl) rfl)) ?_
   refine .cons (fun E A => OpStep.plain rfl (Step.conv (c := (b.getD ((4 * (i : Int)) + 1).toNat 0)) (t := 63) rfl rfl (by exact lt_ok rfl) (by kernel_rfl) (by kernel_rfl) (A.g 62 rfl) (wrap_ok (by first | omega | (simp; omega) | (simp [w16_len, wN_len]; omega)) (by first | omega | (simp; omega) | (simp [w16_len, wN_len]; omega))))) ?_
   refine .cons (fun E A => OpStep.plain rfl (Step.bd (r := .int .i64 y7) 64 (A.g 63 rfl) rfl (Bin.shl (k := .i64) (k' := .u64) (a := (b.getD ((4 * (i : Int)) + 1).toNat 0)) (b := 16) (by first | omega | (simp; omega) | (simp [w16_len, wN_len]; omega)) (hy7_.symm)))) ?_
   refine .cons (fun E A => OpStep.plain rfl (Step.bd (r := .int .i64 (bor y6 y7)) 65 (A.g 56 rfl) (A.g 64 rfl) (Bin.or (k := .i64) (a := y6) (b := y7) (rfl)))) ?_
   refine .cons (fun E A => A.mv 1 66) ?_
   refine .cons (fun E A => A.mv 10 67) ?_
   refine .cons (fun E A => OpStep.plain rfl (Step.bd (r := .int .i64 (4 * (i : Int))) 68 rfl (A.g 67 rfl) (Bin.mul (a := 4) (b := (i : Int)) (by first | exact wrap_ok (by first | omega | (simp; omega) | (simp [w16_len, wN_len]; omega)) (by first | omega | (simp; omega) | (simp [w16_len, wN_len]; omega)) | rfl)))) ?_
   refine .cons (fun E A => OpStep.plain rfl (Step.bd (r := .int .i64 ((4 * (i : Int)) + 2)) 69 (A.g 68 rfl) rfl (Bin.add (a := (4 * (i : Int))) (b := 2) (by first | exact wrap_ok (by first | omega | (simp; omega) | (simp [w16_len, wN_len]; omega)) (by first | omega | (simp; omega) | (simp [w16_len, wN_len]; omega)) | rfl)))) ?_
   refine .cons (fun E A => OpStep.plain rfl (Step.index (e := 5) (z := 1) (i := ((4 * (i : Int)) + 2)) (t := 70) rfl rfl (by exact lt_ok rfl) (by kernel_rfl) (A.g 66 rfl) rfl rfl (lt_ok rfl) (A.g 69 rfl) (by first | omega | (simp; omega) | (simp [w16_len, wN_len]; omega)) (by simp only [D.size]; first | omega | (simp; omega) | (simp [w16_len, wN_len]; omega)))) ?_
   refine .cons (fun E A => OpStep.plain rfl (Step.load (e := (.int .u8 (b.getD ((4 * (i : Int)) + 2).toNat 0))) (t := 71) rfl rfl (by exact lt_ok rfl) (by kernel_rfl) (A.g 70 rfl) rfl)) ?_
   refine .cons (fun E A => OpStep.plain rfl (Step.conv (c := (b.getD ((4 * (i : Int)) + 2).toNat 0)) (t := 72) rfl rfl (by exact lt_ok rfl) (by kernel_rfl) (by kernel_rfl) (A.g 71 rfl) (wrap_ok (by first | omega | (simp; omega) | (simp [w16_len, wN_len]; omega)) (by first | omega | (simp; omega) | (simp [w16_len, wN_len]; omega))))) ?_
   refine .cons (fun E A => OpStep.plain rfl (Step.bd (r := .int .i64 y8) 73 (A.g 72 rfl) rfl (Bin.shl (k := .i64) (k' := .u64) (a := (b.getD ((4 * (i : Int)) + 2).toNat 0)) (b := 8) (by first | omega | (simp; omega) | (simp [w16_len, wN_len]; omega)) (hy8_.symm)))) ?_
   refine .cons (fun E A => OpStep.plain rfl (Step.bd (r := .int .i64 (bor (bor y6 y7) y8)) 74 (A.g 65 rfl) (A.g 73 rfl) (Bin.or (k := .i64) (a := (bor y6 y7)) (b := y8) (rfl)))) ?_
   refine .cons (fun E A => A.mv 1 75) ?_
   refine .cons (fun E A => A.mv 10 76) ?_
   refine .cons (fun E A => OpStep.plain rfl (Step.bd (r := .int .i64 (4 * (i : Int))) 77 rfl (A.g 76 rfl) (Bin.mul (a := 4) (b := (i : Int)) (by first | exact wrap_ok (by first | omega | (simp; omega) | (simp [w16_len, wN_len]; omega)) (by first | omega | (simp; omega) | (simp [w16_len, wN_len]; omega)) | rfl)))) ?_
   refine .cons (fun E A => OpStep.plain rfl (Step.bd (r := .int .i64 ((4 * (i : Int)) + 3)) 78 (A.g 77 rfl) rfl (Bin.add (a := (4 * (i : Int))) (b := 3) (by first | exact wrap_ok (by first | omega | (simp; omega) | (simp [w16_len, wN_len]; omega)) (by first | omega | (simp; omega) | (simp [w16_len, wN_len]; omega)) | rfl)))) ?_
   refine .cons (fun E A => OpStep.plain rfl (Step.index (e := 5) (z := 1) (i := ((4 * (i : Int)) + 3)) (t := 79) rfl rfl (by exact lt_ok rfl) (by kernel_rfl) (A.g 75 rfl) rfl rfl (lt_ok rfl) (A.g 78 rfl) (by first | omega | (simp; omega) | (simp [w16_len, wN_len]; omega)) (by simp only [D.size]; first | omega | (simp; omega) | (simp [w16_len, wN_len]; omega)))) ?_
   refine .cons (fun E A => OpStep.plain rfl (Step.load (e := (.int .u8 (b.getD ((4 * (i : Int)) + 3).toNat 0))) (t := 80) rfl rfl (by exact lt_ok rfl) (by kernel_rfl) (A.g 79 rfl) rfl)) ?_
   refine .cons (fun E A => OpStep.plain rfl (Step.conv (c := (b.getD ((4 * (i : Int)) + 3).toNat 0)) (t := 81) rfl rfl (by exact lt_ok rfl) (by kernel_rfl) (by kernel_rfl) (A.g 80 rfl) (wrap_ok (by first | omega | (simp; omega) | (simp [w16_len, wN_len]; omega)) (by first | omega | (simp; omega) | (simp [w16_len, wN_len]; omega))))) ?_
   refine .cons (fun E A => OpStep.plain rfl (Step.bd (r := .int .i64 y9) 82 (A.g 74 rfl) (A.g 81 rfl) (Bin.or (k := .i64) (a := (bor (bor y6 y7) y8)) (b := (b.getD ((4 * (i : Int)) + 3).toNat 0)) (hy9_.symm)))) ?_
   refine .cons (fun E A => OpStep.plain rfl (Step.index_arr (d := (.ints .i64 (aI b i))) (e := 3) (n := 64) (z := 1) (i := (i : Int)) (t := 83) rfl rfl (by exact lt_ok rfl) (by kernel_rfl) (A.g 7 rfl) (by exact (A.row 7 (by kernel_rfl)).trans rfl) (by first | exact hl_ | rfl) rfl (lt_ok rfl) (A.g 49 rfl) (by first | omega | (simp; omega) | (simp [w16_len, wN_len]; omega)) (by first | omega | (simp; omega) | (simp [w16_len, wN_len]; omega)))) ?_
   exact .nil _ _
  refine TL.c (Step.store_row (n := 1) (p := (pI y9)) (ps := [cI y9]) (es := [(.int .i64 y9)]) (ss := []) (d1 := (.ints .i64 ((aI b i).set i y9))) (d' := (.ints .i64 ((aI b i).set i y9))) rfl rfl (by kernel_rfl) rfl rfl rfl rfl rfl rfl (.val rfl .nil) (by simp) (Putd.one rfl trivial rfl (by simp only [D.at_, D.size, List.length_set, upTo_length]; first | omega | (simp; omega) | (simp [w16_len, wN_len]; omega)) (lt_ok rfl)) rfl) ?_
  refine TL.nil ?_
  refine T.region ?_
  refine TL.c (Step.bin (r := .int .i64 ((i : Int) + 1)) rfl rfl (lt_ok rfl) rfl rfl (Bin.add (a := (i : Int)) (b := 1) (by first | exact wrap_ok (by first | omega | (simp; omega) | (simp [w16_len, wN_len]; omega)) (by first | omega | (simp; omega) | (simp [w16_len, wN_len]; omega)) | rfl))) ?_
  refine TL.mv (pI ((i : Int) + 1)) ?_
  refine TL.nil ?_
  subst hy9_ hy8_ hy7_ hy6_
  refine ⟨i + 1, by omega, by first | omega | (dsimp only; omega), Env.le_mk ⟨rfl, rfl, rfl, rfl, rfl, ?_, trivial⟩ ⟨rfl, ?_, rfl, trivial⟩ trivial⟩ <;> (first | exact congrArg (fun x => some (_, D.ints .i64 x)) (aI_zero b) | exact congrArg (fun x => some (_, D.ints .i64 x)) (aI_set b (by omega)) | rfl | (refine congrArg (fun x => some (_, D.ints .i64 x)) ?_; first | rfl | fail) | (refine congrArg (fun n => PV.one (.d (.int .i64 n))) ?_; first | rfl | omega | (simp; done)))
 refine T.exit ?_
 refine T.seq ?_
 refine T.seq ?_
 refine T.region ?_
 refine TL.as (pI 16) ?_
 refine TL.nil ?_
 refine T.block ?_
 refine T.loop (ι := Nat) (fun xx_ => { tm := [(0, (.one (.d (.ints .i64 h)))), (7, (.one (.rptr 7 [] 0 0))), (9, (.one (.rptr 9 [] 0 0))), (8, (.one (.row 1044 []))), (11, (pI (16 + (xx_ : Int))))], rows := [(1044, (3, (.ints .i64 shaK))), (7, (170, (.ints .i64 (wI b xx_)))), (9, (171, (.ints .i64 [0, 0, 0, 0, 0, 0, 0, 0])))], boxes := [] }) (fun xx_ => xx_ ≤ 48) (fun xx_ => 48 - xx_) 0 ?_ ?_ ?_
 · refine Env.le_mk ⟨rfl, rfl, rfl, rfl, ?_, trivial⟩ ⟨rfl, ?_, rfl, trivial⟩ trivial <;> (first | exact congrArg (fun x => some (_, D.ints .i64 x)) ((congrArg (aI b) (show i = 16 by omega)).trans (wI_zero b)) | exact congrArg (fun x => some (_, D.ints .i64 x)) (wI_set b (by omega)) | rfl | (refine congrArg (fun x => some (_, D.ints .i64 x)) ?_; first | rfl | fail) | (refine congrArg (fun n => PV.one (.d (.int .i64 n))) ?_; first | rfl | omega | (simp; done)))
 · exact Nat.zero_le _
 intro i hx
 try dsimp only at hx ⊢
 have hl_ := wI_len b hx
 have hW_ := wI_W h0_ i
 refine T.seq ?_
 refine T.seq ?_
 refine T.region ?_
 refine TL.mv (pI (16 + (i : Int))) ?_
 refine TL.b _ (Bin.lss (k := .i64) (a := (16 + (i : Int))) (b := 64)) ?_
 refine TL.nil ?_
 refine T.ci rfl (fun h10 => ?_) (fun h10 => ?_)
 ·
  refine T.skip ?_
  refine T.seq ?_
  refine T.block ?_
  refine T.seq ?_
  refine T.draw [⟨89, (pI (16 + (i : Int))), []⟩, ⟨90, (pI ((16 + (i : Int)) - 15)), []⟩, ⟨91, (.one (.rptr 7 [] ((16 + (i : Int)) - 15).toNat 0)), []⟩, ⟨92, (pI ((wI b i).getD ((16 + (i : Int)) - 15).toNat 0)), []⟩, ⟨93, (pI (16 + (i : Int))), []⟩, ⟨94, (pI ((16 + (i : Int)) - 2)), []⟩, ⟨95, (.one (.rptr 7 [] ((16 + (i : Int)) - 2).toNat 0)), []⟩, ⟨96, (pI ((wI b i).getD ((16 + (i : Int)) - 2).toNat 0)), []⟩, ⟨12, (pI ((wI b i).getD ((16 + (i : Int)) - 15).toNat 0)), []⟩, ⟨13, (pI ((wI b i).getD ((16 + (i : Int)) - 2).toNat 0)), []⟩] (by kernel_rfl) (by kernel_rfl) ?_ ?_
  ·
   refine .cons (fun E A => A.mv 11 89) ?_
   refine .cons (fun E A => OpStep.plain rfl (Step.bd (r := .int .i64 ((16 + (i : Int)) - 15)) 90 (A.g 89 rfl) rfl (Bin.sub (a := (16 + (i : Int))) (b := 15) (by first | exact wrap_ok (by first | omega | (simp; omega) | (simp [w16_len, wN_len]; omega)) (by first | omega | (simp; omega) | (simp [w16_len, wN_len]; omega)) | rfl)))) ?_
   refine .cons (fun E A => OpStep.plain rfl (Step.index_arr (d := (.ints .i64 (wI b i))) (e := 3) (n := 64) (z := 1) (i := ((16 + (i : Int)) - 15)) (t := 91) rfl rfl (by exact lt_ok rfl) (by kernel_rfl) (A.g 7 rfl) (by exact (A.row 7 (by kernel_rfl)).trans rfl) (by first | exact hl_ | rfl) rfl (lt_ok rfl) (A.g 90 rfl) (by first | omega | (simp; omega) | (simp [w16_len, wN_len]; omega)) (by first | omega | (simp; omega) | (simp [w16_len, wN_len]; omega)))) ?_
   refine .cons (fun E A => OpStep.plain rfl (Step.load_row (c := cI ((wI b i).getD ((16 + (i : Int)) - 15).toNat 0)) (t := 92) rfl rfl (by exact lt_ok rfl) (by kernel_rfl) (A.g 91 rfl) (by exact (A.row 7 (by kernel_rfl)).trans rfl) rfl)) ?_
   refine .cons (fun E A => A.mv 11 93) ?_
   refine .cons (fun E A => OpStep.plain rfl (Step.bd (r := .int .i64 ((16 + (i : Int)) - 2)) 94 (A.g 93 rfl) rfl (Bin.sub (a := (16 + (i : Int))) (b := 2) (by first | exact wrap_ok (by first | omega | (simp; omega) | (simp [w16_len, wN_len]; omega)) (by first | omega | (simp; omega) | (simp [w16_len, wN_len]; omega)) | rfl)))) ?_
   refine .cons (fun E A => OpStep.plain rfl (Step.index_arr (d := (.ints .i64 (wI b i))) (e := 3) (n := 64) (z := 1) (i := ((16 + (i : Int)) - 2)) (t := 95) rfl rfl (by exact lt_ok rfl) (by kernel_rfl) (A.g 7 rfl) (by exact (A.row 7 (by kernel_rfl)).trans rfl) (by first | exact hl_ | rfl) rfl (lt_ok rfl) (A.g 94 rfl) (by first | omega | (simp; omega) | (simp [w16_len, wN_len]; omega)) (by first | omega | (simp; omega) | (simp [w16_len, wN_len]; omega)))) ?_
   refine .cons (fun E A => OpStep.plain rfl (Step.load_row (c := cI ((wI b i).getD ((16 + (i : Int)) - 2).toNat 0)) (t := 96) rfl rfl (by exact lt_ok rfl) (by kernel_rfl) (A.g 95 rfl) (by exact (A.row 7 (by kernel_rfl)).trans rfl) rfl)) ?_
   refine .cons (fun E A => A.as 92 12) ?_
   refine .cons (fun E A => A.as 96 13) ?_
   exact .nil _ _
  refine TL.nil ?_
  refine T.seq ?_
  refine T.region ?_
  refine TL.mv (pI ((wI b i).getD ((16 + (i : Int)) - 15).toNat 0)) ?_
  refine TL.c (Step.cl (xs := [.tmp 97, .const (.int .i64 7)]) (ps := [(pI ((wI b i).getD ((16 + (i : Int)) - 15).toNat 0)), (pI 7)]) (g := .func 191) false (.cons (.one (.d _)) (.cons (.one (.d _)) .nil)) (ok_impl_TurnRight ((wI b i).getD ((16 + (i : Int)) - 15).toNat 0) 7 (by first | assumption | exact hW_ _ | exact hV_ _ | omega) (by first | omega | decide))) ?_
  refine TL.mv (pI ((wI b i).getD ((16 + (i : Int)) - 15).toNat 0)) ?_
  refine TL.c (Step.cl (xs := [.tmp 99, .const (.int .i64 18)]) (ps := [(pI ((wI b i).getD ((16 + (i : Int)) - 15).toNat 0)), (pI 18)]) (g := .func 191) false (.cons (.one (.d _)) (.cons (.one (.d _)) .nil)) (ok_impl_TurnRight ((wI b i).getD ((16 + (i : Int)) - 15).toNat 0) 18 (by first | assumption | exact hW_ _ | exact hV_ _ | omega) (by first | omega | decide))) ?_
  obtain ⟨y11, hy11_⟩ : ∃ y_, y_ = bxor (turnW ((wI b i).getD ((16 + (i : Int)) - 15).toNat 0) 7) (turnW ((wI b i).getD ((16 + (i : Int)) - 15).toNat 0) 18) := ⟨_, rfl⟩
  refine TL.c (Step.bin (r := .int .i64 y11) rfl rfl (lt_ok rfl) rfl rfl (Bin.xor (k := .i64) (a := (turnW ((wI b i).getD ((16 + (i : Int)) - 15).toNat 0) 7)) (b := (turnW ((wI b i).getD ((16 + (i : Int)) - 15).toNat 0) 18)) (hy11_.symm))) ?_
  refine TL.mv (pI ((wI b i).getD ((16 + (i : Int)) - 15).toNat 0)) ?_
  obtain ⟨y12, hy12_⟩ : ∃ y_, y_ = bshr ((wI b i).getD ((16 + (i : Int)) - 15).toNat 0) 3 := ⟨_, rfl⟩
  refine TL.c (Step.bin (r := .int .i64 y12) rfl rfl (lt_ok rfl) rfl rfl (Bin.shr (k := .i64) (k' := .u64) (a := ((wI b i).getD ((16 + (i : Int)) - 15).toNat 0)) (b := 3) (by first | omega | (simp; omega) | (simp [w16_len, wN_len]; omega)) (hy12_.symm))) ?_
  refine TL.c (Step.bin (r := .int .i64 (bxor y11 y12)) rfl rfl (lt_ok rfl) rfl rfl (Bin.xor (k := .i64) (a := y11) (b := y12) (rfl))) ?_
  refine TL.as (pI (bxor y11 y12)) ?_
  refine TL.nil ?_
  refine T.seq ?_
  refine T.region ?_
  refine TL.mv (pI ((wI b i).getD ((16 + (i : Int)) - 2).toNat 0)) ?_
  refine TL.c (Step.cl (xs := [.tmp 105, .const (.int .i64 17)]) (ps := [(pI ((wI b i).getD ((16 + (i : Int)) - 2).toNat 0)), (pI 17)]) (g := .func 191) false (.cons (.one (.d _)) (.cons (.one (.d _)) .nil)) (ok_impl_TurnRight ((wI b i).getD ((16 + (i : Int)) - 2).toNat 0) 17 (by first | assumption | exact hW_ _ | exact hV_ _ | omega) (by first | omega | decide))) ?_
  refine TL.mv (pI ((wI b i).getD ((16 + (i : Int)) - 2).toNat 0)) ?_
  refine TL.c (Step.cl (xs := [.tmp 107, .const (.int .i64 19)]) (ps := [(pI ((wI b i).getD ((16 + (i : Int)) - 2).toNat 0)), (pI 19)]) (g := .func 191) false (.cons (.one (.d _)) (.cons (.one (.d _)) .nil)) (ok_impl_TurnRight ((wI b i).getD ((16 + (i : Int)) - 2).toNat 0) 19 (by first | assumption | exact hW_ _ | exact hV_ _ | omega) (by first | omega | decide))) ?_
  obtain ⟨y13, hy13_⟩ : ∃ y_, y_ = bxor (turnW ((wI b i).getD ((16 + (i : Int)) - 2).toNat 0) 17) (turnW ((wI b i).getD ((16 + (i : Int)) - 2).toNat 0) 19) := ⟨_, rfl⟩
  refine TL.c (Step.bin (r := .int .i64 y13) rfl rfl (lt_ok rfl) rfl rfl (Bin.xor (k := .i64) (a := (turnW ((wI b i).getD ((16 + (i : Int)) - 2).toNat 0) 17)) (b := (turnW ((wI b i).getD ((16 + (i : Int)) - 2).toNat 0) 19)) (hy13_.symm))) ?_
  refine TL.mv (pI ((wI b i).getD ((16 + (i : Int)) - 2).toNat 0)) ?_
  obtain ⟨y14, hy14_⟩ : ∃ y_, y_ = bshr ((wI b i).getD ((16 + (i : Int)) - 2).toNat 0) 10 := ⟨_, rfl⟩
  refine TL.c (Step.bin (r := .int .i64 y14) rfl rfl (lt_ok rfl) rfl rfl (Bin.shr (k := .i64) (k' := .u64) (a := ((wI b i).getD ((16 + (i : Int)) - 2).toNat 0)) (b := 10) (by first | omega | (simp; omega) | (simp [w16_len, wN_len]; omega)) (hy14_.symm))) ?_
  refine TL.c (Step.bin (r := .int .i64 (bxor y13 y14)) rfl rfl (lt_ok rfl) rfl rfl (Bin.xor (k := .i64) (a := y13) (b := y14) (rfl))) ?_
  refine TL.as (pI (bxor y13 y14)) ?_
  refine TL.nil ?_
  obtain ⟨y15, hy15_⟩ : ∃ y_, y_ = wadd ((wI b i).getD ((16 + (i : Int)) - 16).toNat 0) (bxor y11 y12) := ⟨_, rfl⟩
  obtain ⟨y16, hy16_⟩ : ∃ y_, y_ = wadd y15 ((wI b i).getD ((16 + (i : Int)) - 7).toNat 0) := ⟨_, rfl⟩
  obtain ⟨y17, hy17_⟩ : ∃ y_, y_ = band (wadd y16 (bxor y13 y14)) 4294967295 := ⟨_, rfl⟩
  refine T.draw [⟨113, (pI (16 + (i : Int))), []⟩, ⟨114, (pI (16 + (i : Int))), []⟩, ⟨115, (pI ((16 + (i : Int)) - 16)), []⟩, ⟨116, (.one (.rptr 7 [] ((16 + (i : Int)) - 16).toNat 0)), []⟩, ⟨117, (pI ((wI b i).getD ((16 + (i : Int)) - 16).toNat 0)), []⟩, ⟨118, (pI (bxor y11 y12)), []⟩, ⟨119, (pI y15), []⟩, ⟨120, (pI (16 + (i : Int))), []⟩, ⟨121, (pI ((16 + (i : Int)) - 7)), []⟩, ⟨122, (.one (.rptr 7 [] ((16 + (i : Int)) - 7).toNat 0)), []⟩, ⟨123, (pI ((wI b i).getD ((16 + (i : Int)) - 7).toNat 0)), []⟩, ⟨124, (pI y16), []⟩, ⟨125, (pI (bxor y13 y14)), []⟩, ⟨126, (pI (wadd y16 (bxor y13 y14))), []⟩, ⟨127, (pI y17), []⟩, ⟨128, (.one (.rptr 7 [] (16 + (i : Int)).toNat 0)), []⟩] (by kernel_rfl) (by kernel_rfl) ?_ ?_
  ·
   refine .cons (fun E A => A.mv 11 113) ?_
   refine .cons (fun E A => A.mv 11 114) ?_
   refine .cons (fun E A => OpStep.plain rfl (Step.bd (r := .int .i64 ((16 + (i : Int)) - 16)) 115 (A.g 114 rfl) rfl (Bin.sub (a := (16 + (i : Int))) (b := 16) (by first | exact wrap_ok (by first | omega | (simp; omega) | (simp [w16_len, wN_len]; omega)) (by first | omega | (simp; omega) | (simp [w16_len, wN_len]; omega)) | rfl)))) ?_
   refine .cons (fun E A => OpStep.plain rfl (Step.index_arr (d := (.ints .i64 (wI b i))) (e := 3) (n := 64) (z := 1) (i := ((16 + (i : Int)) - 16)) (t := 116) rfl rfl (by exact lt_ok rfl) (by kernel_rfl) (A.g 7 rfl) (by exact (A.row 7 (by kernel_rfl)).trans rfl) (by first | exact hl_ | rfl) rfl (lt_ok rfl) (A.g 115 rfl) (by first | omega | (simp; omega) | (simp [w16_len, wN_len]; omega)) (by first | omega | (simp; omega) | (simp [w16_len, wN_len]; omega)))) ?_
   refine .cons (fun E A => OpStep.plain rfl (Step.load_row (c := cI ((wI b i).getD ((16 + (i : Int)) - 16).toNat 0)) (t := 117) rfl rfl (by exact lt_ok rfl) (by kernel_rfl) (A.g 116 rfl) (by exact (A.row 7 (by kernel_rfl)).trans rfl) rfl)) ?_
   refine .cons (fun E A => A.mv 14 118) ?_
   refine .cons (fun E A => OpStep.plain rfl (Step.bd (r := .int .i64 y15) 119 (A.g 117 rfl) (A.g 118 rfl) (Bin.add (k := .i64) (a := ((wI b i).getD ((16 + (i : Int)) - 16).toNat 0)) (b := (bxor y11 y12)) (hy15_.symm)))) ?_
   refine .cons (fun E A => A.mv 11 120) ?_
   refine .cons (fun E A => OpStep.plain rfl (Step.bd (r := .int .i64 ((16 + (i : Int)) - 7)) 121 (A.g 120 rfl) rfl (Bin.sub (a := (16 + (i : Int))) (b := 7) (by first | exact wrap_ok (by first | omega | (simp; omega) | (simp [w16_len, wN_len]; omega)) (by first | omega | (simp; omega) | (simp [w16_len, wN_len]; omega)) | rfl)))) ?_
   refine .cons (fun E A => OpStep.plain rfl (Step.index_arr (d := (.ints .i64 (wI b i))) (e := 3) (n := 64) (z := 1) (i := ((16 + (i : Int)) - 7)) (t := 122) rfl rfl (by exact lt_ok rfl) (by kernel_rfl) (A.g 7 rfl) (by exact (A.row 7 (by kernel_rfl)).trans rfl) (by first | exact hl_ | rfl) rfl (lt_ok rfl) (A.g 121 rfl) (by first | omega | (simp; omega) | (simp [w16_len, wN_len]; omega)) (by first | omega | (simp; omega) | (simp [w16_len, wN_len]; omega)))) ?_
   refine .cons (fun E A => OpStep.plain rfl (Step.load_row (c := cI ((wI b i).getD ((16 + (i : Int)) - 7).toNat 0)) (t := 123) rfl rfl (by exact lt_ok rfl) (by kernel_rfl) (A.g 122 rfl) (by exact (A.row 7 (by kernel_rfl)).trans rfl) rfl)) ?_
   refine .cons (fun E A => OpStep.plain rfl (Step.bd (r := .int .i64 y16) 124 (A.g 119 rfl) (A.g 123 rfl) (Bin.add (k := .i64) (a := y15) (b := ((wI b i).getD ((16 + (i : Int)) - 7).toNat 0)) (hy16_.symm)))) ?_
   refine .cons (fun E A => A.mv 15 125) ?_
   refine .cons (fun E A => OpStep.plain rfl (Step.bd (r := .int .i64 (wadd y16 (bxor y13 y14))) 126 (A.g 124 rfl) (A.g 125 rfl) (Bin.add (k := .i64) (a := y16) (b := (bxor y13 y14)) (rfl)))) ?_
   refine .cons (fun E A => OpStep.plain rfl (Step.bd (r := .int .i64 y17) 127 (A.g 126 rfl) rfl (Bin.and (k := .i64) (a := (wadd y16 (bxor y13 y14))) (b := 4294967295) (hy17_.symm)))) ?_
   refine .cons (fun E A => OpStep.plain rfl (Step.index_arr (d := (.ints .i64 (wI b i))) (e := 3) (n := 64) (z := 1) (i := (16 + (i : Int))) (t := 128) rfl rfl (by exact lt_ok rfl) (by kernel_rfl) (A.g 7 rfl) (by exact (A.row 7 (by kernel_rfl)).trans rfl) (by first | exact hl_ | rfl) rfl (lt_ok rfl) (A.g 113 rfl) (by first | omega | (simp; omega) | (simp [w16_len, wN_len]; omega)) (by first | omega | (simp; omega) | (simp [w16_len, wN_len]; omega)))) ?_
   exact .nil _ _
  refine TL.c (Step.store_row (n := 1) (p := (pI y17)) (ps := [cI y17]) (es := [(.int .i64 y17)]) (ss := []) (d1 := (.ints .i64 ((wI b i).set (16 + (i : Int)).toNat y17))) (d' := (.ints .i64 ((wI b i).set (16 + (i : Int)).toNat y17))) rfl rfl (by kernel_rfl) rfl rfl rfl rfl rfl rfl (.val rfl .nil) (by simp) (Putd.one rfl trivial rfl (by simp only [D.at_, D.size, List.length_set, upTo_length]; first | omega | (simp; omega) | (simp [w16_len, wN_len]; omega)) (lt_ok rfl)) rfl) ?_
  refine TL.nil ?_
  refine T.region ?_
  refine TL.mv (pI (16 + (i : Int))) ?_
  refine TL.c (Step.bin (r := .int .i64 ((16 + (i : Int)) + 1)) rfl rfl (lt_ok rfl) rfl rfl (Bin.add (a := (16 + (i : Int))) (b := 1) (by first | exact wrap_ok (by first | omega | (simp; omega) | (simp [w16_len, wN_len]; omega)) (by first | omega | (simp; omega) | (simp [w16_len, wN_len]; omega)) | rfl))) ?_
  refine TL.as (pI ((16 + (i : Int)) + 1)) ?_
  refine TL.nil ?_
  subst hy17_ hy16_ hy15_ hy14_ hy13_ hy12_ hy11_
  refine ⟨i + 1, by omega, by first | omega | (dsimp only; omega), Env.le_mk ⟨rfl, rfl, rfl, rfl, ?_, trivial⟩ ⟨rfl, ?_, rfl, trivial⟩ trivial⟩ <;> (first | exact congrArg (fun x => some (_, D.ints .i64 x)) ((congrArg (aI b) (show i = 16 by omega)).trans (wI_zero b)) | exact congrArg (fun x => some (_, D.ints .i64 x)) (wI_set b (by omega)) | rfl | (refine congrArg (fun x => some (_, D.ints .i64 x)) ?_; first | rfl | fail) | (refine congrArg (fun n => PV.one (.d (.int .i64 n))) ?_; first | rfl | omega | (simp; done)))
 refine T.exit ?_
 refine T.seq ?_
 refine T.region ?_
 refine TL.copyArr (e := 3) (n := 8) (t1 := 129) (t2 := 130) (t3 := 131) (r := 9) (xs := [0, 0, 0, 0, 0, 0, 0, 0]) (ys := h) rfl rfl rfl rfl rfl (lt_ok rfl) rfl rfl (lt_ok rfl) rfl rfl (lt_ok rfl) (by kernel_rfl) (by kernel_rfl) (by decide) rfl rfl (by first | exact hvl_ | exact hvl_.symm | rfl | (simp; done)) rfl (by first | omega | (simp; omega) | (simp [w16_len, wN_len]; omega)) (by decide) ?_
 refine TL.nil ?_
 refine T.seq ?_
 refine T.seq ?_
 refine T.region ?_
 refine TL.mv (pI 0) ?_
 refine TL.nil ?_
 refine T.block ?_
 refine T.loop (ι := Nat) (fun xx_ => { tm := [(0, (.one (.d (.ints .i64 h)))), (7, (.one (.rptr 7 [] 0 0))), (9, (.one (.rptr 9 [] 0 0))), (8, (.one (.row 1044 []))), (132, (pI (xx_ : Int)))], rows := [(1044, (3, (.ints .i64 shaK))), (7, (170, (.ints .i64 (wI b 48)))), (9, (171, (.ints .i64 (vN h (wN b 48) xx_))))], boxes := [] }) (fun xx_ => xx_ ≤ 64) (fun xx_ => 64 - xx_) 0 ?_ ?_ ?_
 · refine Env.le_mk ⟨rfl, rfl, rfl, rfl, ?_, trivial⟩ ⟨rfl, ?_, ?_, trivial⟩ trivial <;> (first | exact congrArg (fun x => some (_, D.ints .i64 (wI b x))) (show i = 48 by omega) | exact congrArg (fun x => some (_, D.ints .i64 x)) ((stepI_eq (hV_ 4)).trans (congrArg (stepV _ _) (hwq_ _))) | rfl | (refine congrArg (fun x => some (_, D.ints .i64 x)) ?_; first | rfl | fail) | (refine congrArg (fun n => PV.one (.d (.int .i64 n))) ?_; first | rfl | omega | (simp; done)))
 · exact Nat.zero_le _
 intro i hx
 try dsimp only at hx ⊢
 have hl_ := wI_len b (i := 48) (by omega)
 have hvl_ := vN_len (h := h) (w := wN b 48) (by omega) i
 have hkl_ : shaK.length = 64 := rfl
 have hV_ := vN_W (h := h) (w := wN b 48) hwo_ i
 have hwq_ : ∀ q, (wI b 48).getD q 0 = (wN b 48).getD q 0 := fun q => by rw [wI_all]
 refine T.seq ?_
 refine T.region ?_
 refine TL.b _ (Bin.lss (k := .i64) (a := (i : Int)) (b := 64)) ?_
 refine TL.nil ?_
 refine T.seq ?_
 refine T.ci rfl (fun h18 => ?_) (fun h18 => ?_)
 ·
  refine T.skip ?_
  refine T.seq ?_
  refine T.block ?_
  refine T.seq ?_
  refine T.region ?_
  refine TL.mv (pI (i : Int)) ?_
  refine TL.as (pI (i : Int)) ?_
  refine TL.nil ?_
  refine T.seq ?_
  refine T.draw [⟨135, (.one (.rptr 9 [] 4 0)), []⟩, ⟨136, (pI ((vN h (wN b 48) i).getD 4 0)), []⟩, ⟨137, (.one (.rptr 9 [] 0 0)), []⟩, ⟨138, (pI ((vN h (wN b 48) i).getD 0 0)), []⟩, ⟨17, (pI ((vN h (wN b 48) i).getD 4 0)), []⟩, ⟨18, (pI ((vN h (wN b 48) i).getD 0 0)), []⟩] (by kernel_rfl) (by kernel_rfl) ?_ ?_
  ·
   refine .cons (fun E A => OpStep.plain rfl (Step.index_arr (d := (.ints .i64 (vN h (wN b 48) i))) (e := 3) (n := 8) (z := 1) (i := 4) (t := 135) rfl rfl (by exact lt_ok rfl) (by kernel_rfl) (A.g 9 rfl) (by exact (A.row 9 (by kernel_rfl)).trans rfl) (by first | exact hvl_ | exact hvl_.symm | rfl | (simp; done)) rfl (lt_ok rfl) rfl (by first | omega | (simp; omega) | (simp [w16_len, wN_len]; omega)) (by first | omega | (simp; omega) | (simp [w16_len, wN_len]; omega)))) ?_
   refine .cons (fun E A => OpStep.plain rfl (Step.load_row (c := cI ((vN h (wN b 48) i).getD 4 0)) (t := 136) rfl rfl (by exact lt_ok rfl) (by kernel_rfl) (A.g 135 rfl) (by exact (A.row 9 (by kernel_rfl)).trans rfl) rfl)) ?_
   refine .cons (fun E A => OpStep.plain rfl (Step.index_arr (d := (.ints .i64 (vN h (wN b 48) i))) (e := 3) (n := 8) (z := 1) (i := 0) (t := 137) rfl rfl (by exact lt_ok rfl) (by kernel_rfl) (A.g 9 rfl) (by exact (A.row 9 (by kernel_rfl)).trans rfl) (by first | exact hvl_ | exact hvl_.symm | rfl | (simp; done)) rfl (lt_ok rfl) rfl (by first | omega | (simp; omega) | (simp [w16_len, wN_len]; omega)) (by first | omega | (simp; omega) | (simp [w16_len, wN_len]; omega)))) ?_
   refine .cons (fun E A => OpStep.plain rfl (Step.load_row (c := cI ((vN h (wN b 48) i).getD 0 0)) (t := 138) rfl rfl (by exact lt_ok rfl) (by kernel_rfl) (A.g 137 rfl) (by exact (A.row 9 (by kernel_rfl)).trans rfl) rfl)) ?_
   refine .cons (fun E A => A.as 136 17) ?_
   refine .cons (fun E A => A.as 138 18) ?_
   exact .nil _ _
  refine TL.nil ?_
  refine T.seq ?_
  refine T.region ?_
  refine TL.mv (pI ((vN h (wN b 48) i).getD 4 0)) ?_
  refine TL.c (Step.index_arr (d := (.ints .i64 (vN h (wN b 48) i))) (e := 3) (n := 8) (z := 1) (i := 5) rfl rfl (lt_ok rfl) (by kernel_rfl) rfl rfl (by first | exact hvl_ | exact hvl_.symm | rfl | (simp; done)) rfl (lt_ok rfl) rfl (by first | omega | (simp; omega) | (simp [w16_len, wN_len]; omega)) (by first | omega | (simp; omega) | (simp [w16_len, wN_len]; omega))) ?_
  refine TL.c (Step.load_row (c := cI ((vN h (wN b 48) i).getD 5 0)) rfl rfl (lt_ok rfl) (by kernel_rfl) rfl rfl rfl) ?_
  obtain ⟨y19, hy19_⟩ : ∃ y_, y_ = band ((vN h (wN b 48) i).getD 4 0) ((vN h (wN b 48) i).getD 5 0) := ⟨_, rfl⟩
  refine TL.c (Step.bin (r := .int .i64 y19) rfl rfl (lt_ok rfl) rfl rfl (Bin.and (k := .i64) (a := ((vN h (wN b 48) i).getD 4 0)) (b := ((vN h (wN b 48) i).getD 5 0)) (hy19_.symm))) ?_
  refine TL.mv (pI ((vN h (wN b 48) i).getD 4 0)) ?_
  obtain ⟨y20, hy20_⟩ : ∃ y_, y_ = bxor ((vN h (wN b 48) i).getD 4 0) 4294967295 := ⟨_, rfl⟩
  refine TL.c (Step.bin (r := .int .i64 y20) rfl rfl (lt_ok rfl) rfl rfl (Bin.xor (k := .i64) (a := ((vN h (wN b 48) i).getD 4 0)) (b := 4294967295) (hy20_.symm))) ?_
  refine TL.c (Step.index_arr (d := (.ints .i64 (vN h (wN b 48) i))) (e := 3) (n := 8) (z := 1) (i := 6) rfl rfl (lt_ok rfl) (by kernel_rfl) rfl rfl (by first | exact hvl_ | exact hvl_.symm | rfl | (simp; done)) rfl (lt_ok rfl) rfl (by first | omega | (simp; omega) | (simp [w16_len, wN_len]; omega)) (by first | omega | (simp; omega) | (simp [w16_len, wN_len]; omega))) ?_
  refine TL.c (Step.load_row (c := cI ((vN h (wN b 48) i).getD 6 0)) rfl rfl (lt_ok rfl) (by kernel_rfl) rfl rfl rfl) ?_
  obtain ⟨y21, hy21_⟩ : ∃ y_, y_ = band y20 ((vN h (wN b 48) i).getD 6 0) := ⟨_, rfl⟩
  refine TL.c (Step.bin (r := .int .i64 y21) rfl rfl (lt_ok rfl) rfl rfl (Bin.and (k := .i64) (a := y20) (b := ((vN h (wN b 48) i).getD 6 0)) (hy21_.symm))) ?_
  refine TL.c (Step.bin (r := .int .i64 (bor y19 y21)) rfl rfl (lt_ok rfl) rfl rfl (Bin.or (k := .i64) (a := y19) (b := y21) (rfl))) ?_
  refine TL.as (pI (bor y19 y21)) ?_
  refine TL.nil ?_
  refine T.seq ?_
  refine T.region ?_
  refine TL.mv (pI ((vN h (wN b 48) i).getD 0 0)) ?_
  refine TL.c (Step.index_arr (d := (.ints .i64 (vN h (wN b 48) i))) (e := 3) (n := 8) (z := 1) (i := 1) rfl rfl (lt_ok rfl) (by kernel_rfl) rfl rfl (by first | exact hvl_ | exact hvl_.symm | rfl | (simp; done)) rfl (lt_ok rfl) rfl (by first | omega | (simp; omega) | (simp [w16_len, wN_len]; omega)) (by first | omega | (simp; omega) | (simp [w16_len, wN_len]; omega))) ?_
  refine TL.c (Step.load_row (c := cI ((vN h (wN b 48) i).getD 1 0)) rfl rfl (lt_ok rfl) (by kernel_rfl) rfl rfl rfl) ?_
  obtain ⟨y22, hy22_⟩ : ∃ y_, y_ = band ((vN h (wN b 48) i).getD 0 0) ((vN h (wN b 48) i).getD 1 0) := ⟨_, rfl⟩
  refine TL.c (Step.bin (r := .int .i64 y22) rfl rfl (lt_ok rfl) rfl rfl (Bin.and (k := .i64) (a := ((vN h (wN b 48) i).getD 0 0)) (b := ((vN h (wN b 48) i).getD 1 0)) (hy22_.symm))) ?_
  refine TL.mv (pI ((vN h (wN b 48) i).getD 0 0)) ?_
  refine TL.c (Step.index_arr (d := (.ints .i64 (vN h (wN b 48) i))) (e := 3) (n := 8) (z := 1) (i := 2) rfl rfl (lt_ok rfl) (by kernel_rfl) rfl rfl (by first | exact hvl_ | exact hvl_.symm | rfl | (simp; done)) rfl (lt_ok rfl) rfl (by first | omega | (simp; omega) | (simp [w16_len, wN_len]; omega)) (by first | omega | (simp; omega) | (simp [w16_len, wN_len]; omega))) ?_
  refine TL.c (Step.load_row (c := cI ((vN h (wN b 48) i).getD 2 0)) rfl rfl (lt_ok rfl) (by kernel_rfl) rfl rfl rfl) ?_
  obtain ⟨y23, hy23_⟩ : ∃ y_, y_ = band ((vN h (wN b 48) i).getD 0 0) ((vN h (wN b 48) i).getD 2 0) := ⟨_, rfl⟩
  refine TL.c (Step.bin (r := .int .i64 y23) rfl rfl (lt_ok rfl) rfl rfl (Bin.and (k := .i64) (a := ((vN h (wN b 48) i).getD 0 0)) (b := ((vN h (wN b 48) i).getD 2 0)) (hy23_.symm))) ?_
  refine TL.c (Step.bin (r := .int .i64 (bor y22 y23)) rfl rfl (lt_ok rfl) rfl rfl (Bin.or (k := .i64) (a := y22) (b := y23) (rfl))) ?_
  refine TL.c (Step.index_arr (d := (.ints .i64 (vN h (wN b 48) i))) (e := 3) (n := 8) (z := 1) (i := 1) rfl rfl (lt_ok rfl) (by kernel_rfl) rfl rfl (by first | exact hvl_ | exact hvl_.symm | rfl | (simp; done)) rfl (lt_ok rfl) rfl (by first | omega | (simp; omega) | (simp [w16_len, wN_len]; omega)) (by first | omega | (simp; omega) | (simp [w16_len, wN_len]; omega))) ?_
  refine TL.c (Step.load_row (c := cI ((vN h (wN b 48) i).getD 1 0)) rfl rfl (lt_ok rfl) (by kernel_rfl) rfl rfl rfl) ?_
  refine TL.c (Step.index_arr (d := (.ints .i64 (vN h (wN b 48) i))) (e := 3) (n := 8) (z := 1) (i := 2) rfl rfl (lt_ok rfl) (by kernel_rfl) rfl rfl (by first | exact hvl_ | exact hvl_.symm | rfl | (simp; done)) rfl (lt_ok rfl) rfl (by first | omega | (simp; omega) | (simp [w16_len, wN_len]; omega)) (by first | omega | (simp; omega) | (simp [w16_len, wN_len]; omega))) ?_
  refine TL.c (Step.load_row (c := cI ((vN h (wN b 48) i).getD 2 0)) rfl rfl (lt_ok rfl) (by kernel_rfl) rfl rfl rfl) ?_
  obtain ⟨y24, hy24_⟩ : ∃ y_, y_ = band ((vN h (wN b 48) i).getD 1 0) ((vN h (wN b 48) i).getD 2 0) := ⟨_, rfl⟩
  refine TL.c (Step.bin (r := .int .i64 y24) rfl rfl (lt_ok rfl) rfl rfl (Bin.and (k := .i64) (a := ((vN h (wN b 48) i).getD 1 0)) (b := ((vN h (wN b 48) i).getD 2 0)) (hy24_.symm))) ?_
  refine TL.c (Step.bin (r := .int .i64 (bor (bor y22 y23) y24)) rfl rfl (lt_ok rfl) rfl rfl (Bin.or (k := .i64) (a := (bor y22 y23)) (b := y24) (rfl))) ?_
  refine TL.as (pI (bor (bor y22 y23) y24)) ?_
  refine TL.nil ?_
  refine T.seq ?_
  obtain ⟨y25, hy25_⟩ : ∃ y_, y_ = bxor (turnW ((vN h (wN b 48) i).getD 4 0) 6) (turnW ((vN h (wN b 48) i).getD 4 0) 11) := ⟨_, rfl⟩
  obtain ⟨y26, hy26_⟩ : ∃ y_, y_ = bxor y25 (turnW ((vN h (wN b 48) i).getD 4 0) 25) := ⟨_, rfl⟩
  obtain ⟨y27, hy27_⟩ : ∃ y_, y_ = wadd ((vN h (wN b 48) i).getD 7 0) y26 := ⟨_, rfl⟩
  obtain ⟨y28, hy28_⟩ : ∃ y_, y_ = wadd (wadd y27 (bor y19 y21)) (shaK.getD i 0) := ⟨_, rfl⟩
  obtain ⟨y29, hy29_⟩ : ∃ y_, y_ = wadd y28 ((wI b 48).getD i 0) := ⟨_, rfl⟩
  refine T.draw [⟨164, (.one (.rptr 9 [] 7 0)), []⟩, ⟨165, (pI ((vN h (wN b 48) i).getD 7 0)), []⟩, ⟨166, (pI ((vN h (wN b 48) i).getD 4 0)), []⟩, ⟨167, (pI (turnW ((vN h (wN b 48) i).getD 4 0) 6)), []⟩, ⟨168, (pI ((vN h (wN b 48) i).getD 4 0)), []⟩, ⟨169, (pI (turnW ((vN h (wN b 48) i).getD 4 0) 11)), []⟩, ⟨170, (pI y25), []⟩, ⟨171, (pI ((vN h (wN b 48) i).getD 4 0)), []⟩, ⟨172, (pI (turnW ((vN h (wN b 48) i).getD 4 0) 25)), []⟩, ⟨173, (pI y26), []⟩, ⟨174, (pI y27), []⟩, ⟨175, (pI (bor y19 y21)), []⟩, ⟨176, (pI (wadd y27 (bor y19 y21))), []⟩, ⟨177, (.one (.row 1044 [])), []⟩, ⟨178, (pI (i : Int)), []⟩, ⟨179, (.one (.rptr 1044 [] i 0)), []⟩, ⟨180, (pI (shaK.getD i 0)), []⟩, ⟨181, (pI y28), []⟩, ⟨182, (pI (i : Int)), []⟩, ⟨183, (.one (.rptr 7 [] i 0)), []⟩, ⟨184, (pI ((wI b 48).getD i 0)), []⟩, ⟨185, (pI y29), []⟩, ⟨21, (pI y29), []⟩] (by kernel_rfl) (by kernel_rfl) ?_ ?_
  ·
   refine .cons (fun E A => OpStep.plain rfl (Step.index_arr (d := (.ints .i64 (vN h (wN b 48) i))) (e := 3) (n := 8) (z := 1) (i := 7) (t := 164) rfl rfl (by exact lt_ok rfl) (by kernel_rfl) (A.g 9 rfl) (by exact (A.row 9 (by kernel_rfl)).trans rfl) (by first | exact hvl_ | exact hvl_.symm | rfl | (simp; done)) rfl (lt_ok rfl) rfl (by first | omega | (simp; omega) | (simp [w16_len, wN_len]; omega)) (by first | omega | (simp; omega) | (simp [w16_len, wN_len]; omega)))) ?_
   refine .cons (fun E A => OpStep.plain rfl (Step.load_row (c := cI ((vN h (wN b 48) i).getD 7 0)) (t := 165) rfl rfl (by exact lt_ok rfl) (by kernel_rfl) (A.g 164 rfl) (by exact (A.row 9 (by kernel_rfl)).trans rfl) rfl)) ?_
   refine .cons (fun E A => A.mv 17 166) ?_
   refine .cons (fun E A => OpStep.plain rfl (Step.cd (xs := [.tmp 166, .const (.int .i64 6)]) (ps := [(pI ((vN h (wN b 48) i).getD 4 0)), (pI 6)]) (g := .func 191) false 167 (evs_cons (A.g 166 rfl) (evs_cons rfl (rfl))) (.cons (.one (.d _)) (.cons (.one (.d _)) .nil)) (ok_impl_TurnRight ((vN h (wN b 48) i).getD 4 0) 6 (by first | assumption | exact hW_ _ | exact hV_ _ | omega) (by first | omega | decide)) (At.freshRows A rfl))) ?_
   refine .cons (fun E A => A.mv 17 168) ?_
   refine .cons (fun E A => OpStep.plain rfl (Step.cd (xs := [.tmp 168, .const (.int .i64 11)]) (ps := [(pI ((vN h (wN b 48) i).getD 4 0)), (pI 11)]) (g := .func 191) false 169 (evs_cons (A.g 168 rfl) (evs_cons rfl (rfl))) (.cons (.one (.d _)) (.cons (.one (.d _)) .nil)) (ok_impl_TurnRight ((vN h (wN b 48) i).getD 4 0) 11 (by first | assumption | exact hW_ _ | exact hV_ _ | omega) (by first | omega | decide)) (At.freshRows A rfl))) ?_
   refine .cons (fun E A => OpStep.plain rfl (Step.bd (r := .int .i64 y25) 170 (A.g 167 rfl) (A.g 169 rfl) (Bin.xor (k := .i64) (a := (turnW ((vN h (wN b 48) i).getD 4 0) 6)) (b := (turnW ((vN h (wN b 48) i).getD 4 0) 11)) (hy25_.symm)))) ?_
   refine .cons (fun E A => A.mv 17 171) ?_
   refine .cons (fun E A => OpStep.plain rfl (Step.cd (xs := [.tmp 171, .const (.int .i64 25)]) (ps := [(pI ((vN h (wN b 48) i).getD 4 0)), (pI 25)]) (g := .func 191) false 172 (evs_cons (A.g 171 rfl) (evs_cons rfl (rfl))) (.cons (.one (.d _)) (.cons (.one (.d _)) .nil)) (ok_impl_TurnRight ((vN h (wN b 48) i).getD 4 0) 25 (by first | assumption | exact hW_ _ | exact hV_ _ | omega) (by first | omega | decide)) (At.freshRows A rfl))) ?_
   refine .cons (fun E A => OpStep.plain rfl (Step.bd (r := .int .i64 y26) 173 (A.g 170 rfl) (A.g 172 rfl) (Bin.xor (k := .i64) (a := y25) (b := (turnW ((vN h (wN b 48) i).getD 4 0) 25)) (hy26_.symm)))) ?_
   refine .cons (fun E A => OpStep.plain rfl (Step.bd (r := .int .i64 y27) 174 (A.g 165 rfl) (A.g 173 rfl) (Bin.add (k := .i64) (a := ((vN h (wN b 48) i).getD 7 0)) (b := y26) (hy27_.symm)))) ?_
   refine .cons (fun E A => A.mv 19 175) ?_
   refine .cons (fun E A => OpStep.plain rfl (Step.bd (r := .int .i64 (wadd y27 (bor y19 y21))) 176 (A.g 174 rfl) (A.g 175 rfl) (Bin.add (k := .i64) (a := y27) (b := (bor y19 y21)) (rfl)))) ?_
   refine .cons (fun E A => A.mv 8 177) ?_
   refine .cons (fun E A => A.mv 16 178) ?_
   refine .cons (fun E A => OpStep.plain rfl (Step.index_row (e := 3) (z := 1) (i := (i : Int)) (t := 179) rfl rfl (by exact lt_ok rfl) (by kernel_rfl) (A.g 177 rfl) (by exact (A.row 1044 (by kernel_rfl)).trans rfl) rfl rfl (lt_ok rfl) (A.g 178 rfl) (by first | omega | (simp; omega) | (simp [w16_len, wN_len]; omega)) (by simp only [D.at_, D.cell, D.size]; first | omega | (simp; omega) | (simp [w16_len, wN_len]; omega)))) ?_
   refine .cons (fun E A => OpStep.plain rfl (Step.load_row (c := cI (shaK.getD i 0)) (t := 180) rfl rfl (by exact lt_ok rfl) (by kernel_rfl) (A.g 179 rfl) (by exact (A.row 1044 (by kernel_rfl)).trans rfl) rfl)) ?_
   refine .cons (fun E A => OpStep.plain rfl (Step.bd (r := .int .i64 y28) 181 (A.g 176 rfl) (A.g 180 rfl) (Bin.add (k := .i64) (a := (wadd y27 (bor y19 y21))) (b := (shaK.getD i 0)) (hy28_.symm)))) ?_
   refine .cons (fun E A => A.mv 16 182) ?_
   refine .cons (fun E A => OpStep.plain rfl (Step.index_arr (d := (.ints .i64 (wI b 48))) (e := 3) (n := 64) (z := 1) (i := (i : Int)) (t := 183) rfl rfl (by exact lt_ok rfl) (by kernel_rfl) (A.g 7 rfl) (by exact (A.row 7 (by kernel_rfl)).trans rfl) (by first | exact hl_ | rfl) rfl (lt_ok rfl) (A.g 182 rfl) (by first | omega | (simp; omega) | (simp [w16_len, wN_len]; omega)) (by first | omega | (simp; omega) | (simp [w16_len, wN_len]; omega)))) ?_
   refine .cons (fun E A => OpStep.plain rfl (Step.load_row (c := cI ((wI b 48).getD i 0)) (t := 184) rfl rfl (by exact lt_ok rfl) (by kernel_rfl) (A.g 183 rfl) (by exact (A.row 7 (by kernel_rfl)).trans rfl) rfl)) ?_
   refine .cons (fun E A => OpStep.plain rfl (Step.bd (r := .int .i64 y29) 185 (A.g 181 rfl) (A.g 184 rfl) (Bin.add (k := .i64) (a := y28) (b := ((wI b 48).getD i 0)) (hy29_.symm)))) ?_
   refine .cons (fun E A => A.as 185 21) ?_
   exact .nil _ _
  refine TL.nil ?_
  refine T.seq ?_
  refine T.region ?_
  refine TL.mv (pI ((vN h (wN b 48) i).getD 0 0)) ?_
  refine TL.c (Step.cl (xs := [.tmp 186, .const (.int .i64 2)]) (ps := [(pI ((vN h (wN b 48) i).getD 0 0)), (pI 2)]) (g := .func 191) false (.cons (.one (.d _)) (.cons (.one (.d _)) .nil)) (ok_impl_TurnRight ((vN h (wN b 48) i).getD 0 0) 2 (by first | assumption | exact hW_ _ | exact hV_ _ | omega) (by first | omega | decide))) ?_
  refine TL.mv (pI ((vN h (wN b 48) i).getD 0 0)) ?_
  refine TL.c (Step.cl (xs := [.tmp 188, .const (.int .i64 13)]) (ps := [(pI ((vN h (wN b 48) i).getD 0 0)), (pI 13)]) (g := .func 191) false (.cons (.one (.d _)) (.cons (.one (.d _)) .nil)) (ok_impl_TurnRight ((vN h (wN b 48) i).getD 0 0) 13 (by first | assumption | exact hW_ _ | exact hV_ _ | omega) (by first | omega | decide))) ?_
  obtain ⟨y30, hy30_⟩ : ∃ y_, y_ = bxor (turnW ((vN h (wN b 48) i).getD 0 0) 2) (turnW ((vN h (wN b 48) i).getD 0 0) 13) := ⟨_, rfl⟩
  refine TL.c (Step.bin (r := .int .i64 y30) rfl rfl (lt_ok rfl) rfl rfl (Bin.xor (k := .i64) (a := (turnW ((vN h (wN b 48) i).getD 0 0) 2)) (b := (turnW ((vN h (wN b 48) i).getD 0 0) 13)) (hy30_.symm))) ?_
  refine TL.mv (pI ((vN h (wN b 48) i).getD 0 0)) ?_
  refine TL.c (Step.cl (xs := [.tmp 191, .const (.int .i64 22)]) (ps := [(pI ((vN h (wN b 48) i).getD 0 0)), (pI 22)]) (g := .func 191) false (.cons (.one (.d _)) (.cons (.one (.d _)) .nil)) (ok_impl_TurnRight ((vN h (wN b 48) i).getD 0 0) 22 (by first | assumption | exact hW_ _ | exact hV_ _ | omega) (by first | omega | decide))) ?_
  obtain ⟨y31, hy31_⟩ : ∃ y_, y_ = bxor y30 (turnW ((vN h (wN b 48) i).getD 0 0) 22) := ⟨_, rfl⟩
  refine TL.c (Step.bin (r := .int .i64 y31) rfl rfl (lt_ok rfl) rfl rfl (Bin.xor (k := .i64) (a := y30) (b := (turnW ((vN h (wN b 48) i).getD 0 0) 22)) (hy31_.symm))) ?_
  refine TL.mv (pI (bor (bor y22 y23) y24)) ?_
  obtain ⟨y32, hy32_⟩ : ∃ y_, y_ = wadd y31 (bor (bor y22 y23) y24) := ⟨_, rfl⟩
  refine TL.c (Step.bin (r := .int .i64 y32) rfl rfl (lt_ok rfl) rfl rfl (Bin.add (k := .i64) (a := y31) (b := (bor (bor y22 y23) y24)) (hy32_.symm))) ?_
  refine TL.as (pI y32) ?_
  refine TL.nil ?_
  refine T.wk [(0, (.one (.d (.ints .i64 h)))), (7, (.one (.rptr 7 [] 0 0))), (9, (.one (.rptr 9 [] 0 0))), (8, (.one (.row 1044 []))), (132, (pI (i : Int))), (17, (pI ((vN h (wN b 48) i).getD 4 0))), (18, (pI ((vN h (wN b 48) i).getD 0 0))), (21, (pI y29)), (22, (pI y32))] [(1044, (3, (.ints .i64 shaK))), (7, (170, (.ints .i64 (wI b 48)))), (9, (171, (.ints .i64 (vN h (wN b 48) i))))] [] ?_
  refine T.region ?_
  refine TL.mv (pI y29) ?_
  refine TL.mv (pI y32) ?_
  refine TL.c (Step.bin (r := .int .i64 (wadd y29 y32)) rfl rfl (lt_ok rfl) rfl rfl (Bin.add (k := .i64) (a := y29) (b := y32) (rfl))) ?_
  obtain ⟨y33, hy33_⟩ : ∃ y_, y_ = band (wadd y29 y32) 4294967295 := ⟨_, rfl⟩
  refine TL.c (Step.bin (r := .int .i64 y33) rfl rfl (lt_ok rfl) rfl rfl (Bin.and (k := .i64) (a := (wadd y29 y32)) (b := 4294967295) (hy33_.symm))) ?_
  refine TL.mv (pI ((vN h (wN b 48) i).getD 0 0)) ?_
  refine TL.c (Step.index_arr (d := (.ints .i64 (vN h (wN b 48) i))) (e := 3) (n := 8) (z := 1) (i := 1) rfl rfl (lt_ok rfl) (by kernel_rfl) rfl rfl (by first | exact hvl_ | exact hvl_.symm | rfl | (simp; done)) rfl (lt_ok rfl) rfl (by first | omega | (simp; omega) | (simp [w16_len, wN_len]; omega)) (by first | omega | (simp; omega) | (simp [w16_len, wN_len]; omega))) ?_
  refine TL.c (Step.load_row (c := cI ((vN h (wN b 48) i).getD 1 0)) rfl rfl (lt_ok rfl) (by kernel_rfl) rfl rfl rfl) ?_
  refine TL.c (Step.index_arr (d := (.ints .i64 (vN h (wN b 48) i))) (e := 3) (n := 8) (z := 1) (i := 2) rfl rfl (lt_ok rfl) (by kernel_rfl) rfl rfl (by first | exact hvl_ | exact hvl_.symm | rfl | (simp; done)) rfl (lt_ok rfl) rfl (by first | omega | (simp; omega) | (simp [w16_len, wN_len]; omega)) (by first | omega | (simp; omega) | (simp [w16_len, wN_len]; omega))) ?_
  refine TL.c (Step.load_row (c := cI ((vN h (wN b 48) i).getD 2 0)) rfl rfl (lt_ok rfl) (by kernel_rfl) rfl rfl rfl) ?_
  refine TL.c (Step.index_arr (d := (.ints .i64 (vN h (wN b 48) i))) (e := 3) (n := 8) (z := 1) (i := 3) rfl rfl (lt_ok rfl) (by kernel_rfl) rfl rfl (by first | exact hvl_ | exact hvl_.symm | rfl | (simp; done)) rfl (lt_ok rfl) rfl (by first | omega | (simp; omega) | (simp [w16_len, wN_len]; omega)) (by first | omega | (simp; omega) | (simp [w16_len, wN_len]; omega))) ?_
  refine TL.c (Step.load_row (c := cI ((vN h (wN b 48) i).getD 3 0)) rfl rfl (lt_ok rfl) (by kernel_rfl) rfl rfl rfl) ?_
  refine TL.mv (pI y29) ?_
  obtain ⟨y34, hy34_⟩ : ∃ y_, y_ = wadd ((vN h (wN b 48) i).getD 3 0) y29 := ⟨_, rfl⟩
  refine TL.c (Step.bin (r := .int .i64 y34) rfl rfl (lt_ok rfl) rfl rfl (Bin.add (k := .i64) (a := ((vN h (wN b 48) i).getD 3 0)) (b := y29) (hy34_.symm))) ?_
  refine TL.c (Step.bin (r := .int .i64 (band y34 4294967295)) rfl rfl (lt_ok rfl) rfl rfl (Bin.and (k := .i64) (a := y34) (b := 4294967295) (rfl))) ?_
  refine TL.mv (pI ((vN h (wN b 48) i).getD 4 0)) ?_
  refine TL.c (Step.index_arr (d := (.ints .i64 (vN h (wN b 48) i))) (e := 3) (n := 8) (z := 1) (i := 5) rfl rfl (lt_ok rfl) (by kernel_rfl) rfl rfl (by first | exact hvl_ | exact hvl_.symm | rfl | (simp; done)) rfl (lt_ok rfl) rfl (by first | omega | (simp; omega) | (simp [w16_len, wN_len]; omega)) (by first | omega | (simp; omega) | (simp [w16_len, wN_len]; omega))) ?_
  refine TL.c (Step.load_row (c := cI ((vN h (wN b 48) i).getD 5 0)) rfl rfl (lt_ok rfl) (by kernel_rfl) rfl rfl rfl) ?_
  refine TL.c (Step.index_arr (d := (.ints .i64 (vN h (wN b 48) i))) (e := 3) (n := 8) (z := 1) (i := 6) rfl rfl (lt_ok rfl) (by kernel_rfl) rfl rfl (by first | exact hvl_ | exact hvl_.symm | rfl | (simp; done)) rfl (lt_ok rfl) rfl (by first | omega | (simp; omega) | (simp [w16_len, wN_len]; omega)) (by first | omega | (simp; omega) | (simp [w16_len, wN_len]; omega))) ?_
  refine TL.c (Step.load_row (c := cI ((vN h (wN b 48) i).getD 6 0)) rfl rfl (lt_ok rfl) (by kernel_rfl) rfl rfl rfl) ?_
  refine TL.c (Step.buildArr (zs := List.replicate 8 (.int .i64 0)) (size := 1) (pss := [(0, [cI y33]), (1, [cI ((vN h (wN b 48) i).getD 0 0)]), (2, [cI ((vN h (wN b 48) i).getD 1 0)]), (3, [cI ((vN h (wN b 48) i).getD 2 0)]), (4, [cI (band y34 4294967295)]), (5, [cI ((vN h (wN b 48) i).getD 4 0)]), (6, [cI ((vN h (wN b 48) i).getD 5 0)]), (7, [cI ((vN h (wN b 48) i).getD 6 0)])]) (ps' := [cI y33, cI ((vN h (wN b 48) i).getD 0 0), cI ((vN h (wN b 48) i).getD 1 0), cI ((vN h (wN b 48) i).getD 2 0), cI (band y34 4294967295), cI ((vN h (wN b 48) i).getD 4 0), cI ((vN h (wN b 48) i).getD 5 0), cI ((vN h (wN b 48) i).getD 6 0)]) rfl rfl (lt_ok rfl) (by kernel_rfl) (.cons ⟨rfl, rfl⟩ (.cons ⟨rfl, rfl⟩ (.cons ⟨rfl, rfl⟩ (.cons ⟨rfl, rfl⟩ (.cons ⟨rfl, rfl⟩ (.cons ⟨rfl, rfl⟩ (.cons ⟨rfl, rfl⟩ (.cons ⟨rfl, rfl⟩ .nil)))))))) rfl (by kernel_rfl) (by kernel_rfl)) ?_
  refine TL.c (Step.store_row (n := 8) (p := (.agg [cI y33, cI ((vN h (wN b 48) i).getD 0 0), cI ((vN h (wN b 48) i).getD 1 0), cI ((vN h (wN b 48) i).getD 2 0), cI (band y34 4294967295), cI ((vN h (wN b 48) i).getD 4 0), cI ((vN h (wN b 48) i).getD 5 0), cI ((vN h (wN b 48) i).getD 6 0)])) (ps := [cI y33, cI ((vN h (wN b 48) i).getD 0 0), cI ((vN h (wN b 48) i).getD 1 0), cI ((vN h (wN b 48) i).getD 2 0), cI (band y34 4294967295), cI ((vN h (wN b 48) i).getD 4 0), cI ((vN h (wN b 48) i).getD 5 0), cI ((vN h (wN b 48) i).getD 6 0)]) (es := [(.int .i64 y33), (.int .i64 ((vN h (wN b 48) i).getD 0 0)), (.int .i64 ((vN h (wN b 48) i).getD 1 0)), (.int .i64 ((vN h (wN b 48) i).getD 2 0)), (.int .i64 (band y34 4294967295)), (.int .i64 ((vN h (wN b 48) i).getD 4 0)), (.int .i64 ((vN h (wN b 48) i).getD 5 0)), (.int .i64 ((vN h (wN b 48) i).getD 6 0))]) (ss := []) (d1 := (.ints .i64 [y33, (vN h (wN b 48) i).getD 0 0, (vN h (wN b 48) i).getD 1 0, (vN h (wN b 48) i).getD 2 0, band y34 4294967295, (vN h (wN b 48) i).getD 4 0, (vN h (wN b 48) i).getD 5 0, (vN h (wN b 48) i).getD 6 0])) (d' := (.ints .i64 [y33, (vN h (wN b 48) i).getD 0 0, (vN h (wN b 48) i).getD 1 0, (vN h (wN b 48) i).getD 2 0, band y34 4294967295, (vN h (wN b 48) i).getD 4 0, (vN h (wN b 48) i).getD 5 0, (vN h (wN b 48) i).getD 6 0])) rfl rfl (by kernel_rfl) rfl rfl rfl rfl rfl rfl (.val rfl (.val rfl (.val rfl (.val rfl (.val rfl (.val rfl (.val rfl (.val rfl .nil)))))))) (by simp) (by have h_ := Putd.all (k := .i64) (xs := vN h (wN b 48) i) (ys := [y33, (vN h (wN b 48) i).getD 0 0, (vN h (wN b 48) i).getD 1 0, (vN h (wN b 48) i).getD 2 0, band y34 4294967295, (vN h (wN b 48) i).getD 4 0, (vN h (wN b 48) i).getD 5 0, (vN h (wN b 48) i).getD 6 0]) (by first | exact hvl_ | exact hvl_.symm | rfl | (simp; done)); exact h_) rfl) ?_
  refine TL.nil ?_
  refine T.region ?_
  refine TL.c (Step.bin (r := .int .i64 ((i : Int) + 1)) rfl rfl (lt_ok rfl) rfl rfl (Bin.add (a := (i : Int)) (b := 1) (by first | exact wrap_ok (by first | omega | (simp; omega) | (simp [w16_len, wN_len]; omega)) (by first | omega | (simp; omega) | (simp [w16_len, wN_len]; omega)) | rfl))) ?_
  refine TL.mv (pI ((i : Int) + 1)) ?_
  refine TL.nil ?_
  subst hy34_ hy33_ hy32_ hy31_ hy30_ hy29_ hy28_ hy27_ hy26_ hy25_ hy24_ hy23_ hy22_ hy21_ hy20_ hy19_
  refine ⟨i + 1, by omega, by first | omega | (dsimp only; omega), Env.le_mk ⟨rfl, rfl, rfl, rfl, ?_, trivial⟩ ⟨rfl, rfl, ?_, trivial⟩ trivial⟩ <;> (first | exact congrArg (fun x => some (_, D.ints .i64 (wI b x))) (show i = 48 by omega) | exact congrArg (fun x => some (_, D.ints .i64 x)) ((stepI_eq (hV_ 4)).trans (congrArg (stepV _ _) (hwq_ _))) | rfl | (refine congrArg (fun x => some (_, D.ints .i64 x)) ?_; first | rfl | fail) | (refine congrArg (fun n => PV.one (.d (.int .i64 n))) ?_; first | rfl | omega | (simp; done)))
 refine T.exit ?_
 refine T.seq ?_
 refine T.region ?_
 refine TL.c (Step.lit (e := 3) (z := 1) (by_ := 8) (xs := []) (pss := []) (es := []) (ss := []) (d := (.ints .i64 [])) rfl rfl (lt_ok rfl) (by kernel_rfl) rfl rfl .nil (by simp) (le_ok rfl) (le_ok rfl) rfl .nil rfl (by simp) (by simp) rfl trivial rfl rfl) ?_
 refine TL.as (.one (.row 217 [])) ?_
 refine TL.nil ?_
 refine T.seq ?_
 refine T.seq ?_
 refine T.region ?_
 refine TL.mv (pI 0) ?_
 refine TL.nil ?_
 refine T.block ?_
 refine T.loop (ι := Nat) (fun xx_ => { tm := [(0, (.one (.d (.ints .i64 h)))), (9, (.one (.rptr 9 [] 0 0))), (218, (pI (xx_ : Int))), (23, (.one (.row 217 [])))], rows := [(1044, (3, (.ints .i64 shaK))), (9, (171, (.ints .i64 (vN h (wN b 48) 64)))), (217, (3, (.ints .i64 (outs h (vN h (wN b 48) 64) xx_))))], boxes := [] }) (fun xx_ => xx_ ≤ 8) (fun xx_ => 8 - xx_) 0 ?_ ?_ ?_
 · refine Env.le_mk ⟨rfl, rfl, ?_, rfl, trivial⟩ ⟨rfl, ?_, ?_, trivial⟩ trivial <;> (first | (exact congrArg (fun x => some (_, D.ints .i64 (vN h (wN b 48) x))) (show i = 64 by omega)) | (exact congrArg (fun x => PV.one (.d (.ints .i64 (vN h (wN b 48) x)))) (show i = 64 by omega)) | rfl | (refine congrArg (fun x => some (_, D.ints .i64 x)) ?_; first | rfl | (rw [show i = 64 from by omega]; first | done | rfl)) | (refine congrArg (fun n => PV.one (.d (.int .i64 n))) ?_; first | rfl | omega | (simp; done)))
 · exact Nat.zero_le _
 intro i hx
 try dsimp only at hx ⊢
 have hvl_ := vN_len (h := h) (w := wN b 48) (by omega) 64
 have hol_ := outs_len h (vN h (wN b 48) 64) i
 refine T.seq ?_
 refine T.region ?_
 refine TL.b _ (Bin.lss (k := .i64) (a := (i : Int)) (b := 8)) ?_
 refine TL.nil ?_
 refine T.seq ?_
 refine T.ci rfl (fun h35 => ?_) (fun h35 => ?_)
 ·
  refine T.skip ?_
  refine T.seq ?_
  refine T.block ?_
  refine T.seq ?_
  refine T.region ?_
  refine TL.mv (pI (i : Int)) ?_
  refine TL.as (pI (i : Int)) ?_
  refine TL.nil ?_
  obtain ⟨y36, hy36_⟩ : ∃ y_, y_ = wadd (h.getD i 0) ((vN h (wN b 48) 64).getD i 0) := ⟨_, rfl⟩
  refine T.draw [⟨221, (.one (.row 217 [])), []⟩, ⟨222, (.one (.d (.ints .i64 h))), []⟩, ⟨223, (pI (i : Int)), []⟩, ⟨224, (.one (.eptr (.ints .i64 h) i 0)), []⟩, ⟨225, (pI (h.getD i 0)), []⟩, ⟨226, (pI (i : Int)), []⟩, ⟨227, (.one (.rptr 9 [] i 0)), []⟩, ⟨228, (pI ((vN h (wN b 48) 64).getD i 0)), []⟩, ⟨229, (pI y36), []⟩, ⟨230, (pI (band y36 4294967295)), []⟩, ⟨231, (.one (.d (.ints .i64 [band y36 4294967295]))), []⟩] (by kernel_rfl) (by kernel_rfl) ?_ ?_
  ·
   refine .cons (fun E A => A.mv 23 221) ?_
   refine .cons (fun E A => A.mv 0 222) ?_
   refine .cons (fun E A => A.mv 24 223) ?_
   refine .cons (fun E A => OpStep.plain rfl (Step.index (e := 3) (z := 1) (i := (i : Int)) (t := 224) rfl rfl (by exact lt_ok rfl) (by kernel_rfl) (A.g 222 rfl) rfl rfl (lt_ok rfl) (A.g 223 rfl) (by first | omega | (simp; omega) | (simp [w16_len, wN_len]; omega)) (by simp only [D.size]; first | omega | (simp; omega) | (simp [w16_len, wN_len]; omega)))) ?_
   refine .cons (fun E A => OpStep.plain rfl (Step.load (e := (.int .i64 (h.getD i 0))) (t := 225) rfl rfl (by exact lt_ok rfl) (by kernel_rfl) (A.g 224 rfl) rfl)) ?_
   refine .cons (fun E A => A.mv 24 226) ?_
   refine .cons (fun E A => OpStep.plain rfl (Step.index_arr (d := (.ints .i64 (vN h (wN b 48) 64))) (e := 3) (n := 8) (z := 1) (i := (i : Int)) (t := 227) rfl rfl (by exact lt_ok rfl) (by kernel_rfl) (A.g 9 rfl) (by exact (A.row 9 (by kernel_rfl)).trans rfl) (by first | exact hvl_ | exact hvl_.symm | rfl | (simp; done)) rfl (lt_ok rfl) (A.g 226 rfl) (by first | omega | (simp; omega) | (simp [w16_len, wN_len]; omega)) (by first | omega | (simp; omega) | (simp [w16_len, wN_len]; omega)))) ?_
   refine .cons (fun E A => OpStep.plain rfl (Step.load_row (c := cI ((vN h (wN b 48) 64).getD i 0)) (t := 228) rfl rfl (by exact lt_ok rfl) (by kernel_rfl) (A.g 227 rfl) (by exact (A.row 9 (by kernel_rfl)).trans rfl) rfl)) ?_
   refine .cons (fun E A => OpStep.plain rfl (Step.bd (r := .int .i64 y36) 229 (A.g 225 rfl) (A.g 228 rfl) (Bin.add (k := .i64) (a := (h.getD i 0)) (b := ((vN h (wN b 48) 64).getD i 0)) (hy36_.symm)))) ?_
   refine .cons (fun E A => OpStep.plain rfl (Step.bd (r := .int .i64 (band y36 4294967295)) 230 (A.g 229 rfl) rfl (Bin.and (k := .i64) (a := y36) (b := 4294967295) (rfl)))) ?_
   refine .cons (fun E A => OpStep.plain rfl (Step.lit_d (e := 3) (z := 1) (by_ := 8) (xs := [.tmp 230]) (pss := [[cI (band y36 4294967295)]]) (ds := [(.int .i64 (band y36 4294967295))]) (d := (.ints .i64 [band y36 4294967295])) (t := 231) rfl rfl (by exact lt_ok rfl) (by kernel_rfl) rfl rfl (.cons (by exact (congrArg PV.flat (A.g 230 rfl)).trans rfl) .nil) (by simp) (le_ok rfl) (le_ok rfl) rfl rfl trivial rfl rfl)) ?_
   exact .nil _ _
  refine TL.c (Step.append (e := 3) (z := 1) (by_ := 8) (d := (.ints .i64 (outs h (vN h (wN b 48) 64) i))) (dy := (.ints .i64 [band y36 4294967295])) (d' := (.ints .i64 ((outs h (vN h (wN b 48) 64) i) ++ [band y36 4294967295]))) (ss := []) rfl rfl (lt_ok rfl) (by kernel_rfl) rfl rfl rfl (lt_ok rfl) rfl (.froz rfl (by simp [D.flat, D.val])) (by simp) rfl (by simp only [D.size, List.length_map]; first | omega | (simp only [List.length_append, List.length_cons, List.length_nil]; omega) | (simp; omega) | (simp only [List.length_append] at *; omega)) (by simp only [D.size, List.length_map]; first | omega | (simp only [List.length_append, List.length_cons, List.length_nil]; omega) | (simp; omega) | (simp only [List.length_append] at *; omega)) (by simp)) ?_
  refine TL.as (.one (.row 217 [])) ?_
  refine TL.nil ?_
  refine T.region ?_
  refine TL.c (Step.bin (r := .int .i64 ((i : Int) + 1)) rfl rfl (lt_ok rfl) rfl rfl (Bin.add (a := (i : Int)) (b := 1) (by first | exact wrap_ok (by first | omega | (simp; omega) | (simp [w16_len, wN_len]; omega)) (by first | omega | (simp; omega) | (simp [w16_len, wN_len]; omega)) | rfl))) ?_
  refine TL.mv (pI ((i : Int) + 1)) ?_
  refine TL.nil ?_
  subst hy36_
  refine ⟨i + 1, by omega, by first | omega | (dsimp only; omega), Env.le_mk ⟨rfl, rfl, ?_, rfl, trivial⟩ ⟨rfl, rfl, ?_, trivial⟩ trivial⟩ <;> (first | (exact congrArg (fun x => some (_, D.ints .i64 (vN h (wN b 48) x))) (show i = 64 by omega)) | (exact congrArg (fun x => PV.one (.d (.ints .i64 (vN h (wN b 48) x)))) (show i = 64 by omega)) | rfl | (refine congrArg (fun x => some (_, D.ints .i64 x)) ?_; first | rfl | (rw [show i = 64 from by omega]; first | done | rfl)) | (refine congrArg (fun n => PV.one (.d (.int .i64 n))) ?_; first | rfl | omega | (simp; done)))
 refine T.exit ?_
 refine T.seq ?_
 refine T.region ?_
 refine TL.mv (.one (.row 217 [])) ?_
 refine TL.as (.one (.row 217 [])) ?_
 refine TL.nil ?_
 refine T.ret ?_
 refine ⟨[(false, [.row 217 []])], (.cons rfl .nil), rfl, [217], (RetC.o ?_ .nil)⟩ <;> (first | (rw [shaBlock_yes (h := h) (b := b) ⟨by omega, by omega, hwo_⟩, show i = 8 from by omega]; done) | (simp only [D.size]; first | (rw [shaBlock_no (fun h_ => by have := h_.1; have := h_.2.1; omega)]; rfl) | (rw [shaBlock_no (fun h_ => by have := h_.2.2; rw [words_no (i := i) (by omega) (by omega)] at this; cases this)]; rfl)))
theorem ok_impl_Sha (b : List Int) (h0_ : U8s b) (h1_ : b.length ≤ 17592186040000) : RO Try.prog 103 [.one (.ints .u8 b)] [(false, [.own 5 (.ints .u8 (sha b))])] := by
 refine RO.intro Try.func103 rfl 48 rfl (le_ok rfl) fun w Z => ?_
 refine T.bnd 0 0 rfl rfl fun hb_0_0 => ?_
 simp only [D.size, List.length_map] at hb_0_0
 refine T.seq ?_
 refine T.region ?_
 refine TL.as (.one (.nil)) ?_
 refine TL.nil ?_
 refine T.seq ?_
 refine T.region ?_
 refine TL.c (Step.cl (xs := []) (ps := []) (g := .func 150) false .nil (ok_impl_ShaInit )) ?_
 refine TL.mv (pS b) ?_
 have nn1 := shaPad_mod b
 refine TL.c (Step.cl (xs := [.tmp 10]) (ps := [(pS b)]) (g := .func 151) false (.cons (.one (.d _)) .nil) (ok_impl_ShaPad b (by first | omega | assumption | (simp only [List.length_append] at *; omega)))) ?_
 refine TL.as (.one (.row 1009 [])) ?_
 refine TL.freeze (r := 1011) rfl (fun _ h => h) ?_
 refine TL.as (pS (shaPad b)) ?_
 refine TL.ren 1009 600003 rfl (by simp) ?_
 refine TL.nil ?_
 refine T.seq ?_
 refine T.seq ?_
 refine T.region ?_
 refine TL.as (pI 0) ?_
 refine TL.nil ?_
 refine T.block ?_
 refine T.loop (ι := Nat) (fun xx_ => { tm := [(2, (.one (.nil))), (4, (pS (shaPad b))), (5, (pI (64 * (xx_ : Int)))), (3, (.one (.row 600003 [])))], rows := [(600003, (3, (.ints .i64 (hN (shaPad b) xx_))))], boxes := [] }) (fun xx_ => 64 * xx_ ≤ (shaPad b).length) (fun xx_ => (shaPad b).length - 64 * xx_) 0 ?_ ?_ ?_
 · refine Env.le_mk ⟨rfl, rfl, ?_, rfl, trivial⟩ ⟨?_, trivial⟩ trivial <;> (first | rfl | (refine congrArg (fun n => PV.one (.d (.int .i64 n))) ?_; first | rfl | omega | (simp; done)))
 · exact Nat.zero_le _
 intro i hx
 try dsimp only at hx ⊢
 have hu_ := u8_sub (shaPad_u8 h0_)
 refine T.seq ?_
 refine T.seq ?_
 refine T.region ?_
 refine TL.mv (pI (64 * (i : Int))) ?_
 refine TL.mv (pS (shaPad b)) ?_
 refine TL.c (Step.len (e := 5) (z := 1) (d := (.ints .u8 (shaPad b))) rfl rfl (lt_ok rfl) (by kernel_rfl) rfl rfl) ?_
 refine TL.b _ (Bin.lss (k := .i64) (a := (64 * (i : Int))) (b := ((shaPad b).length : Int))) ?_
 refine TL.nil ?_
 refine T.ci rfl (fun h2 => ?_) (fun h2 => ?_)
 ·
  refine T.skip ?_
  refine T.seq ?_
  refine T.block ?_
  refine T.region ?_
  refine TL.mv (.one (.row 600003 [])) ?_
  refine TL.mv (pS (shaPad b)) ?_
  refine TL.mv (pI (64 * (i : Int))) ?_
  refine TL.mv (pI (64 * (i : Int))) ?_
  refine TL.c (Step.bin (r := .int .i64 ((64 * (i : Int)) + 64)) rfl rfl (lt_ok rfl) rfl rfl (Bin.add (a := (64 * (i : Int))) (b := 64) (by first | exact wrap_ok (by first | omega | (simp; omega)) (by first | omega | (simp; omega)) | rfl))) ?_
  refine TL.c (Step.slice (e := 5) (z := 1) (l := (64 * (i : Int)).toNat) (h := ((64 * (i : Int)) + 64).toNat) rfl rfl (lt_ok rfl) (by kernel_rfl) rfl rfl rfl ((.some (i := (64 * (i : Int))) rfl (by first | omega | (simp; omega)))) ((.some (i := ((64 * (i : Int)) + 64)) rfl (by first | omega | (simp; omega)))) (by first | omega | (simp; omega)) (by simp only [D.size]; first | omega | (simp; omega)) rfl) ?_
  have nn3 := shaBlock_len (hN (shaPad b) i) (((shaPad b).drop (64 * (i : Int)).toNat).take (((64 * (i : Int)) + 64).toNat - (64 * (i : Int)).toNat))
  refine TL.c (Step.cl (xs := [.tmp 18, .tmp 23]) (ps := [(.one (.row 600003 [])), (pS (((shaPad b).drop (64 * (i : Int)).toNat).take (((64 * (i : Int)) + 64).toNat - (64 * (i : Int)).toNat)))]) (g := .func 152) false (.cons (.one (.row rfl rfl rfl rfl)) (.cons (.one (.d _)) .nil)) (ok_impl_ShaBlock (hN (shaPad b) i) (((shaPad b).drop (64 * (i : Int)).toNat).take (((64 * (i : Int)) + 64).toNat - (64 * (i : Int)).toNat)) (by first | assumption | exact hu_ _ _))) ?_
  refine TL.as (.one (.row 1024 [])) ?_
  refine TL.weaken (Env.drops_le [600003] _) ?_
  refine TL.ren 1024 600003 rfl (by simp) ?_
  refine TL.nil ?_
  refine T.region ?_
  refine TL.mv (pI (64 * (i : Int))) ?_
  refine TL.c (Step.bin (r := .int .i64 ((64 * (i : Int)) + 64)) rfl rfl (lt_ok rfl) rfl rfl (Bin.add (a := (64 * (i : Int))) (b := 64) (by first | exact wrap_ok (by first | omega | (simp; omega)) (by first | omega | (simp; omega)) | rfl))) ?_
  refine TL.as (pI ((64 * (i : Int)) + 64)) ?_
  refine TL.nil ?_
  refine ⟨i + 1, by omega, by first | omega | (dsimp only; omega), Env.le_mk ⟨rfl, rfl, ?_, rfl, trivial⟩ ⟨?_, trivial⟩ trivial⟩ <;> (first | rfl | (refine congrArg (fun n => PV.one (.d (.int .i64 n))) ?_; first | rfl | omega | (simp; done)))
 refine T.exit ?_
 refine T.seq ?_
 refine T.region ?_
 refine TL.c (Step.lit (e := 5) (z := 1) (by_ := 1) (xs := []) (pss := []) (es := []) (ss := []) (d := (.ints .u8 [])) rfl rfl (lt_ok rfl) (by kernel_rfl) rfl rfl .nil (by simp) (le_ok rfl) (le_ok rfl) rfl .nil rfl (by simp) (by simp) rfl trivial rfl rfl) ?_
 refine TL.as (.one (.row 25 [])) ?_
 refine TL.nil ?_
 refine T.seq ?_
 refine T.seq ?_
 refine T.region ?_
 refine TL.mv (.one (.row 600003 [])) ?_
 refine TL.c (Step.len (e := 3) (z := 1) (d := (.ints .i64 (hN (shaPad b) i))) rfl rfl (lt_ok rfl) (by kernel_rfl) rfl rfl) ?_
 refine TL.mv (pI 0) ?_
 refine TL.nil ?_
 refine T.block ?_
 refine T.loop (ι := Nat) (fun xx_ => { tm := [(2, (.one (.nil))), (26, (.one (.row 600003 []))), (27, (pI ((shaH b).length : Int))), (28, (pI (xx_ : Int))), (6, (.one (.row 25 [])))], rows := [(600003, (3, (.ints .i64 (shaH b)))), (25, (5, (.ints .u8 (outB (shaH b) xx_))))], boxes := [] }) (fun xx_ => xx_ ≤ (shaH b).length) (fun xx_ => (shaH b).length - xx_) 0 ?_ ?_ ?_
 · refine Env.le_mk ⟨rfl, rfl, ?_, ?_, rfl, trivial⟩ ⟨?_, ?_, trivial⟩ trivial <;> (first | rfl | (refine congrArg (fun x => some (_, D.ints .i64 x)) ?_; unfold shaH; rw [show i = (shaPad b).length / 64 from by omega]) | (refine congrArg (fun n => PV.one (.d (.int .i64 n))) ?_; first | rfl | omega | (unfold shaH; rw [show i = (shaPad b).length / 64 from by omega]; first | done | rfl) | (simp; done)))
 · exact Nat.zero_le _
 intro i hx
 try dsimp only at hx ⊢
 have hl_ := outB_len (shaH b) i
 have hh_ : (shaH b).length ≤ 8 := hN_len _ _
 refine T.seq ?_
 refine T.region ?_
 refine TL.b _ (Bin.lss (k := .i64) (a := (i : Int)) (b := ((shaH b).length : Int))) ?_
 refine TL.nil ?_
 refine T.seq ?_
 refine T.ci rfl (fun h4 => ?_) (fun h4 => ?_)
 ·
  refine T.skip ?_
  refine T.seq ?_
  refine T.block ?_
  refine T.seq ?_
  refine T.region ?_
  refine TL.c (Step.index_row (e := 3) (z := 1) (i := (i : Int)) rfl rfl (lt_ok rfl) (by kernel_rfl) rfl rfl rfl rfl (lt_ok rfl) rfl (by first | omega | (simp; omega)) (by simp only [D.at_, D.cell, D.size]; first | omega | (simp; omega))) ?_
  refine TL.c (Step.load_row (c := cI ((shaH b).getD i 0)) rfl rfl (lt_ok rfl) (by kernel_rfl) rfl rfl rfl) ?_
  refine TL.as (pI ((shaH b).getD i 0)) ?_
  refine TL.nil ?_
  refine T.region ?_
  refine TL.mv (.one (.row 25 [])) ?_
  refine TL.mv (pI ((shaH b).getD i 0)) ?_
  refine TL.c (Step.bin (r := .int .i64 (bshr ((shaH b).getD i 0) 24)) rfl rfl (lt_ok rfl) rfl rfl (Bin.shr (k := .i64) (k' := .u64) (a := ((shaH b).getD i 0)) (b := 24) (by first | omega | (simp; omega)) (rfl))) ?_
  refine TL.c (Step.conv (c := ((bshr ((shaH b).getD i 0) 24) % 256)) rfl rfl (lt_ok rfl) (by kernel_rfl) (by kernel_rfl) rfl (wrap_byte _)) ?_
  refine TL.mv (pI ((shaH b).getD i 0)) ?_
  refine TL.c (Step.bin (r := .int .i64 (bshr ((shaH b).getD i 0) 16)) rfl rfl (lt_ok rfl) rfl rfl (Bin.shr (k := .i64) (k' := .u64) (a := ((shaH b).getD i 0)) (b := 16) (by first | omega | (simp; omega)) (rfl))) ?_
  refine TL.c (Step.conv (c := ((bshr ((shaH b).getD i 0) 16) % 256)) rfl rfl (lt_ok rfl) (by kernel_rfl) (by kernel_rfl) rfl (wrap_byte _)) ?_
  refine TL.mv (pI ((shaH b).getD i 0)) ?_
  refine TL.c (Step.bin (r := .int .i64 (bshr ((shaH b).getD i 0) 8)) rfl rfl (lt_ok rfl) rfl rfl (Bin.shr (k := .i64) (k' := .u64) (a := ((shaH b).getD i 0)) (b := 8) (by first | omega | (simp; omega)) (rfl))) ?_
  refine TL.c (Step.conv (c := ((bshr ((shaH b).getD i 0) 8) % 256)) rfl rfl (lt_ok rfl) (by kernel_rfl) (by kernel_rfl) rfl (wrap_byte _)) ?_
  refine TL.mv (pI ((shaH b).getD i 0)) ?_
  refine TL.c (Step.conv (c := (((shaH b).getD i 0) % 256)) rfl rfl (lt_ok rfl) (by kernel_rfl) (by kernel_rfl) rfl (wrap_byte _)) ?_
  refine TL.c (Step.lit (e := 5) (z := 1) (by_ := 1) (xs := [.tmp 35, .tmp 38, .tmp 41, .tmp 43]) (pss := [[.d (.int .u8 ((bshr ((shaH b).getD i 0) 24) % 256))], [.d (.int .u8 ((bshr ((shaH b).getD i 0) 16) % 256))], [.d (.int .u8 ((bshr ((shaH b).getD i 0) 8) % 256))], [.d (.int .u8 (((shaH b).getD i 0) % 256))]]) (es := [(.int .u8 ((bshr ((shaH b).getD i 0) 24) % 256)), (.int .u8 ((bshr ((shaH b).getD i 0) 16) % 256)), (.int .u8 ((bshr ((shaH b).getD i 0) 8) % 256)), (.int .u8 (((shaH b).getD i 0) % 256))]) (ss := []) (d := (.ints .u8 [(bshr ((shaH b).getD i 0) 24) % 256, (bshr ((shaH b).getD i 0) 16) % 256, (bshr ((shaH b).getD i 0) 8) % 256, ((shaH b).getD i 0) % 256])) rfl rfl (lt_ok rfl) (by kernel_rfl) rfl rfl (.cons rfl (.cons rfl (.cons rfl (.cons rfl .nil)))) (by simp) (le_ok rfl) (le_ok rfl) rfl (.val rfl (.val rfl (.val rfl (.val rfl .nil)))) rfl (by simp) (by simp) rfl trivial rfl rfl) ?_
  refine TL.c (Step.append (e := 5) (z := 1) (by_ := 1) (d := (.ints .u8 (outB (shaH b) i))) (dy := (.ints .u8 [(bshr ((shaH b).getD i 0) 24) % 256, (bshr ((shaH b).getD i 0) 16) % 256, (bshr ((shaH b).getD i 0) 8) % 256, ((shaH b).getD i 0) % 256])) (d' := (.ints .u8 ((outB (shaH b) i) ++ [(bshr ((shaH b).getD i 0) 24) % 256, (bshr ((shaH b).getD i 0) 16) % 256, (bshr ((shaH b).getD i 0) 8) % 256, ((shaH b).getD i 0) % 256]))) (ss := []) rfl rfl (lt_ok rfl) (by kernel_rfl) rfl rfl rfl (lt_ok rfl) rfl (.copy rfl rfl rfl (by simp [D.flat, D.val])) (by simp) rfl (by simp only [D.size, List.length_map]; first | omega | (simp only [List.length_append, List.length_cons, List.length_nil]; omega) | (simp; omega) | (simp only [List.length_append] at *; omega)) (by simp only [D.size, List.length_map]; first | omega | (simp only [List.length_append, List.length_cons, List.length_nil]; omega) | (simp; omega) | (simp only [List.length_append] at *; omega)) (by simp)) ?_
  refine TL.as (.one (.row 25 [])) ?_
  refine TL.nil ?_
  refine T.region ?_
  refine TL.c (Step.bin (r := .int .i64 ((i : Int) + 1)) rfl rfl (lt_ok rfl) rfl rfl (Bin.add (a := (i : Int)) (b := 1) (by first | exact wrap_ok (by first | omega | (simp; omega)) (by first | omega | (simp; omega)) | rfl))) ?_
  refine TL.mv (pI ((i : Int) + 1)) ?_
  refine TL.nil ?_
  refine ⟨i + 1, by omega, by first | omega | (dsimp only; omega), Env.le_mk ⟨rfl, rfl, rfl, ?_, rfl, trivial⟩ ⟨rfl, ?_, trivial⟩ trivial⟩ <;> (first | rfl | (refine congrArg (fun x => some (_, D.ints .i64 x)) ?_; unfold shaH; rw [show i = (shaPad b).length / 64 from by omega]) | (refine congrArg (fun n => PV.one (.d (.int .i64 n))) ?_; first | rfl | omega | (unfold shaH; rw [show i = (shaPad b).length / 64 from by omega]; first | done | rfl) | (simp; done)))
 refine T.exit ?_
 refine T.seq ?_
 refine T.region ?_
 refine TL.mv (.one (.row 25 [])) ?_
 refine TL.as (.one (.row 25 [])) ?_
 refine TL.nil ?_
 refine T.ret ?_
 refine ⟨[(false, [.row 25 []])], (.cons rfl .nil), rfl, [25], (RetC.o ?_ .nil)⟩ <;> ((congr 1; unfold sha; rw [show i = (shaH b).length from by omega]))
theorem ok_impl_LeafHash (x : List Int) (h0_ : U8s x) (h1_ : x.length ≤ 17592186030000) : RO Try.prog 111 [.one (.ints .u8 x)] [(false, [.own 5 (.ints .u8 (leafHash x))])] := by
 refine RO.intro Try.func111 rfl 7 rfl (le_ok rfl) fun w Z => ?_
 refine T.bnd 0 0 rfl rfl fun hb_0_0 => ?_
 simp only [D.size, List.length_map] at hb_0_0
 refine T.seq ?_
 refine T.region ?_
 refine TL.as (.one (.nil)) ?_
 refine TL.nil ?_
 refine T.seq ?_
 refine T.region ?_
 refine TL.c (Step.lit (e := 5) (z := 1) (by_ := 1) (xs := [.const (.int .u8 0)]) (pss := [[.d (.int .u8 0)]]) (es := [(.int .u8 0)]) (ss := []) (d := (.ints .u8 [0])) rfl rfl (lt_ok rfl) (by kernel_rfl) rfl rfl (.cons rfl .nil) (by simp) (le_ok rfl) (le_ok rfl) rfl (.val rfl .nil) rfl (by simp) (by simp) rfl trivial rfl rfl) ?_
 refine TL.mv (pS x) ?_
 refine TL.c (Step.append (e := 5) (z := 1) (by_ := 1) (d := (.ints .u8 [0])) (dy := (.ints .u8 x)) (d' := (.ints .u8 ([0] ++ x))) (ss := []) rfl rfl (lt_ok rfl) (by kernel_rfl) rfl rfl rfl (lt_ok rfl) rfl (.froz rfl (by simp [D.flat, D.val])) (by simp) rfl (by simp only [D.size, List.length_map]; first | omega | (simp only [List.length_append, List.length_cons, List.length_nil]; omega) | (simp; omega) | (simp only [List.length_append] at *; omega)) (by simp only [D.size, List.length_map]; first | omega | (simp only [List.length_append, List.length_cons, List.length_nil]; omega) | (simp; omega) | (simp only [List.length_append] at *; omega)) (by simp)) ?_
 have nn1 := sha_len ([0] ++ x)
 have nn2 := sha_u8 ([0] ++ x)
 refine TL.c (Step.cl (xs := [.tmp 5]) (ps := [(.one (.row 3 []))]) (g := .func 103) false (.cons (.one (.row rfl rfl rfl rfl)) .nil) (ok_impl_Sha ([0] ++ x) (by first | assumption | exact sha_u8 _ | exact treeRoot_u8 _ | exact nodeHash_u8 _ _ | exact leafHash_u8 _ | exact u8_cons (by decide) (by assumption) | exact mem_getD (p := U8s) (by assumption) (by omega) | exact u8_app (u8_cons (by decide) (by assumption)) (by assumption) | exact fun x hx => by cases hx | exact putHead_u8 u8_72 (by assumption)) (by first | omega | assumption | (simp only [List.length_append] at *; omega) | (simp; done) | (simp; omega)))) ?_
 refine TL.as (.one (.row 1006 [])) ?_
 refine TL.nil ?_
 refine T.ret ?_
 refine ⟨[(false, [.row 1006 []])], (.cons rfl .nil), rfl, [1006], (RetC.o ?_ .nil)⟩ <;> (rfl)
theorem ok_impl_SplitAt (n : Int) (h0_ : n ≤ 9223372036854775807) : RO Try.prog 118 [.one (.int .i64 n)] [(false, [.rd (.int .i64 (splitAtT n))])] := by
 refine RO.intro Try.func118 rfl 14 rfl (le_ok rfl) fun w Z => ?_
 refine T.seq ?_
 refine T.region ?_
 refine TL.as (pI 0) ?_
 refine TL.nil ?_
 refine T.seq ?_
 refine T.seq ?_
 refine T.region ?_
 refine TL.mv (pI n) ?_
 refine TL.b _ (Bin.lss (k := .i64) (a := n) (b := 2)) ?_
 refine TL.nil ?_
 refine T.ci rfl (fun h1 => ?_) (fun h1 => ?_)
 ·
  refine T.seq ?_
  refine T.region ?_
  refine TL.as (pI 0) ?_
  refine TL.nil ?_
  refine T.ret ?_
  refine ⟨[(false, [cI 0])], (.cons rfl .nil), rfl, [], (RetC.r ?_ .nil)⟩ <;> ((congr 1; unfold splitAtT; first | (rw [if_pos (by omega)]; done) | (rw [if_neg (by omega)]; rw [if_neg (by omega)] at hx4; exact hx4) | (rw [if_neg (by omega)]; omega)))
 refine T.skip ?_
 refine T.seq ?_
 refine T.region ?_
 refine TL.as (pI 1) ?_
 refine TL.nil ?_
 refine T.seq ?_
 refine T.block ?_
 refine T.loop (ι := Nat × Int) (fun xx_ => { tm := [(0, (pI n)), (2, (pI 0)), (3, (pI (xx_.2)))], rows := [], boxes := [] }) (fun xx_ => 1 ≤ (xx_.2) ∧ (xx_.2) < n ∧ n ≤ (xx_.2) + (xx_.1) ∧ splitGo (xx_.1) n (xx_.2) = splitAt n) (fun xx_ => (xx_.1)) (n.toNat, 1) ?_ ?_ ?_
 · refine Env.le_mk ⟨rfl, rfl, ?_, trivial⟩ trivial trivial <;> (first | rfl | (refine congrArg (fun n => PV.one (.d (.int .i64 n))) ?_; rfl))
 · (dsimp only; refine ⟨by omega, by omega, by omega, rfl⟩)
 intro xx_ hx
 obtain ⟨d, x⟩ := xx_
 try dsimp only at hx ⊢
 obtain ⟨hx1, hx2, hx3, hx4⟩ := hx
 obtain ⟨d', rfl⟩ : ∃ d', d = d' + 1 := ⟨d - 1, by omega⟩
 unfold splitGo at hx4
 refine T.seq ?_
 refine T.seq ?_
 refine T.region ?_
 refine TL.mv (pI x) ?_
 refine TL.mv (pI n) ?_
 refine TL.mv (pI x) ?_
 refine TL.c (Step.bin (r := .int .i64 (n - x)) rfl rfl (lt_ok rfl) rfl rfl (Bin.sub (a := n) (b := x) (by first | exact wrap_ok (by first | omega | (simp; omega)) (by first | omega | (simp; omega)) | rfl))) ?_
 refine TL.b _ (Bin.lss (k := .i64) (a := x) (b := (n - x))) ?_
 refine TL.nil ?_
 refine T.ci rfl (fun h2 => ?_) (fun h2 => ?_)
 ·
  refine T.skip ?_
  refine T.block ?_
  refine T.region ?_
  refine TL.mv (pI x) ?_
  refine TL.c (Step.bin (r := .int .i64 (x * 2)) rfl rfl (lt_ok rfl) rfl rfl (Bin.mul (a := x) (b := 2) (by first | exact wrap_ok (by first | omega | (simp; omega)) (by first | omega | (simp; omega)) | rfl))) ?_
  refine TL.as (pI (x * 2)) ?_
  refine TL.nil ?_
  refine ⟨(d', x * 2), by (try dsimp only); (rw [if_pos (by omega)] at hx4; refine ⟨by omega, by omega, by omega, ?_⟩; first | exact hx4 | (rw [Int.mul_comm]; exact hx4)), by (dsimp only; omega), Env.le_mk ⟨rfl, rfl, ?_, trivial⟩ trivial trivial⟩ <;> (first | rfl | (refine congrArg (fun n => PV.one (.d (.int .i64 n))) ?_; rfl))
 refine T.exit ?_
 refine T.seq ?_
 refine T.region ?_
 refine TL.mv (pI x) ?_
 refine TL.as (pI x) ?_
 refine TL.nil ?_
 refine T.ret ?_
 refine ⟨[(false, [cI x])], (.cons rfl .nil), rfl, [], (RetC.r ?_ .nil)⟩ <;> ((congr 1; unfold splitAtT; first | (rw [if_pos (by omega)]; done) | (rw [if_neg (by omega)]; rw [if_neg (by omega)] at hx4; exact hx4) | (rw [if_neg (by omega)]; omega)))
theorem ok_impl_NodeHash (a : List Int) (b : List Int) (h0_ : U8s a) (h1_ : U8s b) (h2_ : a.length ≤ 1048576) (h3_ : b.length ≤ 1048576) : RO Try.prog 171 [.one (.ints .u8 a), .one (.ints .u8 b)] [(false, [.own 5 (.ints .u8 (nodeHash a b))])] := by
 refine RO.intro Try.func171 rfl 11 rfl (le_ok rfl) fun w Z => ?_
 refine T.bnd 0 0 rfl rfl fun hb_0_0 => ?_
 simp only [D.size, List.length_map] at hb_0_0
 refine T.bnd 1 0 rfl rfl fun hb_1_0 => ?_
 simp only [D.size, List.length_map] at hb_1_0
 refine T.seq ?_
 refine T.region ?_
 refine TL.as (.one (.nil)) ?_
 refine TL.nil ?_
 refine T.seq ?_
 refine T.region ?_
 refine TL.c (Step.lit (e := 5) (z := 1) (by_ := 1) (xs := [.const (.int .u8 1)]) (pss := [[.d (.int .u8 1)]]) (es := [(.int .u8 1)]) (ss := []) (d := (.ints .u8 [1])) rfl rfl (lt_ok rfl) (by kernel_rfl) rfl rfl (.cons rfl .nil) (by simp) (le_ok rfl) (le_ok rfl) rfl (.val rfl .nil) rfl (by simp) (by simp) rfl trivial rfl rfl) ?_
 refine TL.mv (pS a) ?_
 refine TL.c (Step.append (e := 5) (z := 1) (by_ := 1) (d := (.ints .u8 [1])) (dy := (.ints .u8 a)) (d' := (.ints .u8 ([1] ++ a))) (ss := []) rfl rfl (lt_ok rfl) (by kernel_rfl) rfl rfl rfl (lt_ok rfl) rfl (.froz rfl (by simp [D.flat, D.val])) (by simp) rfl (by simp only [D.size, List.length_map]; first | omega | (simp only [List.length_append, List.length_cons, List.length_nil]; omega) | (simp; omega) | (simp only [List.length_append] at *; omega)) (by simp only [D.size, List.length_map]; first | omega | (simp only [List.length_append, List.length_cons, List.length_nil]; omega) | (simp; omega) | (simp only [List.length_append] at *; omega)) (by simp)) ?_
 refine TL.mv (pS b) ?_
 refine TL.c (Step.append (e := 5) (z := 1) (by_ := 1) (d := (.ints .u8 ([1] ++ a))) (dy := (.ints .u8 b)) (d' := (.ints .u8 (([1] ++ a) ++ b))) (ss := []) rfl rfl (lt_ok rfl) (by kernel_rfl) rfl rfl rfl (lt_ok rfl) rfl (.froz rfl (by simp [D.flat, D.val])) (by simp) rfl (by simp only [D.size, List.length_map]; first | omega | (simp only [List.length_append, List.length_cons, List.length_nil]; omega) | (simp; omega) | (simp only [List.length_append] at *; omega)) (by simp only [D.size, List.length_map]; first | omega | (simp only [List.length_append, List.length_cons, List.length_nil]; omega) | (simp; omega) | (simp only [List.length_append] at *; omega)) (by simp)) ?_
 have nn1 := sha_len (([1] ++ a) ++ b)
 have nn2 := sha_u8 (([1] ++ a) ++ b)
 refine TL.c (Step.cl (xs := [.tmp 9]) (ps := [(.one (.row 5 []))]) (g := .func 103) false (.cons (.one (.row rfl rfl rfl rfl)) .nil) (ok_impl_Sha (([1] ++ a) ++ b) (by first | assumption | exact sha_u8 _ | exact treeRoot_u8 _ | exact nodeHash_u8 _ _ | exact leafHash_u8 _ | exact u8_cons (by decide) (by assumption) | exact mem_getD (p := U8s) (by assumption) (by omega) | exact u8_app (u8_cons (by decide) (by assumption)) (by assumption) | exact fun x hx => by cases hx | exact putHead_u8 u8_72 (by assumption)) (by first | omega | assumption | (simp only [List.length_append] at *; omega) | (simp; done) | (simp; omega)))) ?_
 refine TL.as (.one (.row 1010 [])) ?_
 refine TL.nil ?_
 refine T.ret ?_
 refine ⟨[(false, [.row 1010 []])], (.cons rfl .nil), rfl, [1010], (RetC.o ?_ .nil)⟩ <;> (rfl)
theorem ok_impl_TreeRoot_r (d_ : Nat) : ∀ (l : List (List Int)) (hd_ : l.length = d_) (h0_ : ∀ y ∈ l, U8s y) (h1_ : ∀ y ∈ l, y.length ≤ 1048576), RO Try.prog 119 [.one (.bss l)] [(false, [.own 5 (.ints .u8 (treeRoot l))])] := by
 refine Nat.strongRecOn d_ ?_
 intro d_ ih l hd_ h0_ h1_
 subst hd_
 refine RO.intro Try.func119 rfl 27 rfl (le_ok rfl) fun w Z => ?_
 refine T.bnd 0 0 rfl rfl fun hb_0_0 => ?_
 simp only [D.size, List.length_map] at hb_0_0
 have hsb_ := splitAtT_bd (l.length : Int)
 have hsl_ := splitAtT_le (l.length : Int)
 have hpt_ := part_len l
 have hy_ := mem_len h1_ 0
 refine T.seq ?_
 refine T.region ?_
 refine TL.as (.one (.nil)) ?_
 refine TL.nil ?_
 refine T.seq ?_
 refine T.seq ?_
 refine T.region ?_
 refine TL.mv (.one (.d (.bss l))) ?_
 refine TL.c (Step.len (e := 24) (z := 1) (d := (.bss l)) rfl rfl (lt_ok rfl) (by kernel_rfl) rfl rfl) ?_
 refine TL.nil ?_
 refine T.block ?_
 refine T.seq ?_
 refine T.region ?_
 refine TL.b _ (Bin.eql (k := .i64) (a := (l.length : Int)) (b := 0)) ?_
 refine TL.as (pB (decide ((l.length : Int) = 0))) ?_
 refine TL.nil ?_
 refine T.ci rfl (fun h1 => ?_) (fun h1 => ?_)
 ·
  refine T.seq ?_
  refine T.region ?_
  have nn2 := sha_len []
  have nn3 := sha_u8 []
  refine TL.c (Step.cl (xs := [.const (.slice none 0 0)]) (ps := [(.one (.nil))]) (g := .func 103) false (.cons (.one (.nil rfl rfl (by first | exact trivial | exact D.wf_nil _))) .nil) (ok_impl_Sha [] (by first | assumption | exact sha_u8 _ | exact treeRoot_u8 _ | exact nodeHash_u8 _ _ | exact leafHash_u8 _ | exact u8_cons (by decide) (by assumption) | exact mem_getD (p := U8s) (by assumption) (by omega) | exact u8_app (u8_cons (by decide) (by assumption)) (by assumption) | exact fun x hx => by cases hx | exact putHead_u8 u8_72 (by assumption)) (by first | omega | assumption | (simp only [List.length_append] at *; omega) | (simp; done) | (simp; omega)))) ?_
  refine TL.as (.one (.row 1008 [])) ?_
  refine TL.nil ?_
  refine T.ret ?_
  refine ⟨[(false, [.row 1008 []])], (.cons rfl .nil), rfl, [1008], (RetC.o ?_ .nil)⟩ <;> ((congr 1; first | (rw [treeRoot_nil (l := l) (by omega)]; done) | (rw [treeRoot_one (l := l) (by omega)]; done) | (rw [treeRoot_two (l := l) (by omega) (by omega)]; done)))
 refine T.seq ?_
 refine T.region ?_
 refine TL.b _ (Bin.eql (k := .i64) (a := (l.length : Int)) (b := 1)) ?_
 refine TL.as (pB (decide ((l.length : Int) = 1))) ?_
 refine TL.nil ?_
 refine T.ci rfl (fun h4 => ?_) (fun h4 => ?_)
 ·
  refine T.seq ?_
  refine T.region ?_
  refine TL.mv (.one (.d (.bss l))) ?_
  refine TL.c (Step.index (e := 24) (z := 1) (i := 0) rfl rfl (lt_ok rfl) (by kernel_rfl) rfl rfl rfl (lt_ok rfl) rfl (by first | omega | (simp; omega)) (by simp only [D.size]; first | omega | (simp; omega))) ?_
  refine TL.c (Step.load (e := (.ints .u8 (l.getD 0 []))) rfl rfl (lt_ok rfl) (by kernel_rfl) rfl rfl) ?_
  have nn5 := leafHash_len (l.getD 0 [])
  have nn6 := leafHash_u8 (l.getD 0 [])
  refine TL.c (Step.cl (xs := [.tmp 13]) (ps := [(pS (l.getD 0 []))]) (g := .func 111) false (.cons (.one (.d _)) .nil) (ok_impl_LeafHash (l.getD 0 []) (by first | assumption | exact sha_u8 _ | exact treeRoot_u8 _ | exact nodeHash_u8 _ _ | exact leafHash_u8 _ | exact u8_cons (by decide) (by assumption) | exact mem_getD (p := U8s) (by assumption) (by omega) | exact u8_app (u8_cons (by decide) (by assumption)) (by assumption) | exact fun x hx => by cases hx) (by first | omega | assumption | (simp only [List.length_append] at *; omega)))) ?_
  refine TL.as (.one (.row 1014 [])) ?_
  refine TL.nil ?_
  refine T.ret ?_
  refine ⟨[(false, [.row 1014 []])], (.cons rfl .nil), rfl, [1014], (RetC.o ?_ .nil)⟩ <;> ((congr 1; first | (rw [treeRoot_nil (l := l) (by omega)]; done) | (rw [treeRoot_one (l := l) (by omega)]; done) | (rw [treeRoot_two (l := l) (by omega) (by omega)]; done)))
 refine T.skip ?_
 refine T.seq ?_
 refine T.region ?_
 refine TL.mv (.one (.d (.bss l))) ?_
 refine TL.c (Step.len (e := 24) (z := 1) (d := (.bss l)) rfl rfl (lt_ok rfl) (by kernel_rfl) rfl rfl) ?_
 have nn7 := splitAtT_bd (l.length : Int)
 refine TL.c (Step.cl (xs := [.tmp 16]) (ps := [(pI (l.length : Int))]) (g := .func 118) false (.cons (.one (.d _)) .nil) (ok_impl_SplitAt (l.length : Int) (by first | omega | assumption | (simp only [List.length_append] at *; omega)))) ?_
 refine TL.as (pI (splitAtT (l.length : Int))) ?_
 refine TL.nil ?_
 refine T.seq ?_
 have nn8 := treeRoot_len ((l.drop 0).take ((splitAtT (l.length : Int)).toNat - 0))
 have nn9 := treeRoot_u8 ((l.drop 0).take ((splitAtT (l.length : Int)).toNat - 0))
 have nn10 := treeRoot_len ((l.drop (splitAtT (l.length : Int)).toNat).take (l.length - (splitAtT (l.length : Int)).toNat))
 have nn11 := treeRoot_u8 ((l.drop (splitAtT (l.length : Int)).toNat).take (l.length - (splitAtT (l.length : Int)).toNat))
 have nn12 := nodeHash_len (treeRoot ((l.drop 0).take ((splitAtT (l.length : Int)).toNat - 0))) (treeRoot ((l.drop (splitAtT (l.length : Int)).toNat).take (l.length - (splitAtT (l.length : Int)).toNat)))
 have nn13 := nodeHash_u8 (treeRoot ((l.drop 0).take ((splitAtT (l.length : Int)).toNat - 0))) (treeRoot ((l.drop (splitAtT (l.length : Int)).toNat).take (l.length - (splitAtT (l.length : Int)).toNat)))
 refine T.draw [⟨18, (.one (.d (.bss l))), []⟩, ⟨19, (pI (splitAtT (l.length : Int))), []⟩, ⟨20, (.one (.d (.bss ((l.drop 0).take ((splitAtT (l.length : Int)).toNat - 0))))), []⟩, ⟨21, (.one (.row 1021 [])), [(1021, (5, (.ints .u8 (treeRoot ((l.drop 0).take ((splitAtT (l.length : Int)).toNat - 0))))))]⟩, ⟨22, (.one (.d (.bss l))), []⟩, ⟨23, (pI (splitAtT (l.length : Int))), []⟩, ⟨24, (.one (.d (.bss ((l.drop (splitAtT (l.length : Int)).toNat).take (l.length - (splitAtT (l.length : Int)).toNat))))), []⟩, ⟨25, (.one (.row 1025 [])), [(1025, (5, (.ints .u8 (treeRoot ((l.drop (splitAtT (l.length : Int)).toNat).take (l.length - (splitAtT (l.length : Int)).toNat))))))]⟩, ⟨26, (.one (.row 1026 [])), [(1026, (5, (.ints .u8 (nodeHash (treeRoot ((l.drop 0).take ((splitAtT (l.length : Int)).toNat - 0))) (treeRoot ((l.drop (splitAtT (l.length : Int)).toNat).take (l.length - (splitAtT (l.length : Int)).toNat)))))))]⟩, ⟨2, (.one (.row 1026 [])), []⟩] (by kernel_rfl) (by kernel_rfl) ?_ ?_
 ·
  refine .cons (fun E A => A.mv 0 18) ?_
  refine .cons (fun E A => A.mv 3 19) ?_
  refine .cons (fun E A => OpStep.plain rfl (Step.slice (e := 24) (z := 1) (l := 0) (h := (splitAtT (l.length : Int)).toNat) (t := 20) rfl rfl (by exact lt_ok rfl) (by kernel_rfl) (A.g 18 rfl) rfl rfl (.none _) ((.some (i := (splitAtT (l.length : Int))) (A.g 19 rfl) (by first | omega | (simp; omega)))) (by first | omega | (simp; omega)) (by simp only [D.size]; first | omega | (simp; omega)) rfl)) ?_
  refine .cons (fun E A => OpStep.plain rfl (Step.call (f := 119) (xs := [.tmp 20]) (ps := [(.one (.d (.bss ((l.drop 0).take ((splitAtT (l.length : Int)).toNat - 0)))))]) false (g := .func 119) (t := 21) rfl rfl (by exact lt_ok rfl) rfl (by kernel_rfl) (evs_cons (A.g 20 rfl) (rfl)) (.cons (.one (.d _)) .nil) (ih ((l.drop 0).take ((splitAtT (l.length : Int)).toNat - 0)).length (by omega) ((l.drop 0).take ((splitAtT (l.length : Int)).toNat - 0)) rfl (by first | assumption | exact mem_sub (by assumption) _ _ | exact s0.2 | exact o1) (by first | assumption | exact mem_sub (by assumption) _ _ | exact s0.2 | exact s1.2)) (.inr rfl) (At.freshRows A rfl) (by simp) rfl)) ?_
  refine .cons (fun E A => A.mv 0 22) ?_
  refine .cons (fun E A => A.mv 3 23) ?_
  refine .cons (fun E A => OpStep.plain rfl (Step.slice (e := 24) (z := 1) (l := (splitAtT (l.length : Int)).toNat) (h := l.length) (t := 24) rfl rfl (by exact lt_ok rfl) (by kernel_rfl) (A.g 22 rfl) rfl rfl ((.some (i := (splitAtT (l.length : Int))) (A.g 23 rfl) (by first | omega | (simp; omega)))) (.none _) (by first | omega | (simp; omega)) (by simp only [D.size]; first | omega | (simp; omega)) rfl)) ?_
  refine .cons (fun E A => OpStep.plain rfl (Step.call (f := 119) (xs := [.tmp 24]) (ps := [(.one (.d (.bss ((l.drop (splitAtT (l.length : Int)).toNat).take (l.length - (splitAtT (l.length : Int)).toNat)))))]) false (g := .func 119) (t := 25) rfl rfl (by exact lt_ok rfl) rfl (by kernel_rfl) (evs_cons (A.g 24 rfl) (rfl)) (.cons (.one (.d _)) .nil) (ih ((l.drop (splitAtT (l.length : Int)).toNat).take (l.length - (splitAtT (l.length : Int)).toNat)).length (by omega) ((l.drop (splitAtT (l.length : Int)).toNat).take (l.length - (splitAtT (l.length : Int)).toNat)) rfl (by first | assumption | exact mem_sub (by assumption) _ _ | exact s0.2 | exact o1) (by first | assumption | exact mem_sub (by assumption) _ _ | exact s0.2 | exact s1.2)) (.inr rfl) (At.freshRows A rfl) (by simp) rfl)) ?_
  refine .cons (fun E A => OpStep.plain rfl (Step.cd (xs := [.tmp 21, .tmp 25]) (ps := [(.one (.row 1021 [])), (.one (.row 1025 []))]) (g := .func 171) false 26 (evs_cons (A.g 21 rfl) (evs_cons (A.g 25 rfl) (rfl))) (.cons (.one (.row rfl (by exact (A.row 1021 (by kernel_rfl)).trans rfl) rfl rfl)) (.cons (.one (.row rfl (by exact (A.row 1025 (by kernel_rfl)).trans rfl) rfl rfl)) .nil)) (ok_impl_NodeHash (treeRoot ((l.drop 0).take ((splitAtT (l.length : Int)).toNat - 0))) (treeRoot ((l.drop (splitAtT (l.length : Int)).toNat).take (l.length - (splitAtT (l.length : Int)).toNat))) (by first | assumption | exact sha_u8 _ | exact treeRoot_u8 _ | exact nodeHash_u8 _ _ | exact leafHash_u8 _ | exact u8_cons (by decide) (by assumption) | exact mem_getD (p := U8s) (by assumption) (by omega) | exact u8_app (u8_cons (by decide) (by assumption)) (by assumption) | exact fun x hx => by cases hx) (by first | assumption | exact sha_u8 _ | exact treeRoot_u8 _ | exact nodeHash_u8 _ _ | exact leafHash_u8 _ | exact u8_cons (by decide) (by assumption) | exact mem_getD (p := U8s) (by assumption) (by omega) | exact u8_app (u8_cons (by decide) (by assumption)) (by assumption) | exact fun x hx => by cases hx) (by first | omega | assumption | (simp only [List.length_append] at *; omega)) (by first | omega | assumption | (simp only [List.length_append] at *; omega))) (At.freshRows A rfl))) ?_
  refine .cons (fun E A => A.as 26 2) ?_
  exact .nil _ _
 refine TL.nil ?_
 refine T.ret ?_
 refine ⟨[(false, [.row 1026 []])], (.cons rfl .nil), rfl, [1026], (RetC.o ?_ .nil)⟩ <;> ((congr 1; first | (rw [treeRoot_nil (l := l) (by omega)]; done) | (rw [treeRoot_one (l := l) (by omega)]; done) | (rw [treeRoot_two (l := l) (by omega) (by omega)]; done)))
theorem ok_impl_TreeRoot (l : List (List Int)) (h0_ : ∀ y ∈ l, U8s y) (h1_ : ∀ y ∈ l, y.length ≤ 1048576) : RO Try.prog 119 [.one (.bss l)] [(false, [.own 5 (.ints .u8 (treeRoot l))])] := ok_impl_TreeRoot_r _ l rfl h0_ h1_
end Go.Proofs.Ytlcmflenbddliaa.Rf
