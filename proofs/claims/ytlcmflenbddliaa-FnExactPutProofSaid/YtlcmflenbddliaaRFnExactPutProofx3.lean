/- The functions that FnExactPutProof calls, each held to what it answers. Printed by a program of this session; Lean checks it. -/
import Derived.Test.YtlcmflenbddliaaProg
import Derived.Test.YtlcmflenbddliaaRf27
import Derived.Test.YtlcmflenbddliaaRFnExactPutProofx2
namespace Go.Proofs.Ytlcmflenbddliaa.Rf
open Go.RowKit
set_option linter.unusedVariables false
set_option linter.unnecessarySimpa false
set_option linter.unusedSimpArgs false
set_option maxRecDepth 100000
set_option maxHeartbeats 4000000
theorem ok_laws_eqProof (a : SProof) (b : SProof) : RO Try.prog 22 [.agg a.cells, .agg b.cells] [(false, [.rd (.bool (decide (a = b)))])] := by
 refine RO.intro Try.func22 rfl 17 rfl (le_ok rfl) fun w Z => ?_
 refine T.seq ?_
 refine T.region ?_
 refine TL.cons rfl (Step.box (p := (.agg [.d (.sl 10 (a.f0.map SHead.cells)), .d (.int .i64 a.f1.f0), .d (.int .i64 a.f1.f1), .d (.ints .u8 a.f1.f2), .d (.ints .u8 a.f1.f3), .d (.bss a.f1.f4)])) (ps := [.d (.sl 10 (a.f0.map SHead.cells)), .d (.int .i64 a.f1.f0), .d (.int .i64 a.f1.f1), .d (.ints .u8 a.f1.f2), .d (.ints .u8 a.f1.f3), .d (.bss a.f1.f4)]) rfl rfl (lt_ok rfl) rfl rfl rfl rfl rfl) ?_
 refine TL.cons rfl (Step.box (p := (.agg [.d (.sl 10 (b.f0.map SHead.cells)), .d (.int .i64 b.f1.f0), .d (.int .i64 b.f1.f1), .d (.ints .u8 b.f1.f2), .d (.ints .u8 b.f1.f3), .d (.bss b.f1.f4)])) (ps := [.d (.sl 10 (b.f0.map SHead.cells)), .d (.int .i64 b.f1.f0), .d (.int .i64 b.f1.f1), .d (.ints .u8 b.f1.f2), .d (.ints .u8 b.f1.f3), .d (.bss b.f1.f4)]) rfl rfl (lt_ok rfl) rfl rfl rfl rfl rfl) ?_
 refine TL.cons rfl (Step.assign (p := (.one (.d (.bool false)))) rfl rfl (lt_ok rfl) rfl) ?_
 refine TL.nil ?_
 refine T.seq ?_
 refine T.seq ?_
 refine T.region ?_
 refine TL.cons rfl (Step.fieldAddr (q := 0) (off := 0) (n := 1) (one := true) rfl rfl (lt_ok rfl) (by kernel_rfl) (Nat.succ_ne_zero _) rfl) ?_
 refine TL.cons rfl (Step.load_box (c := .d (.sl 10 (a.f0.map SHead.cells))) rfl rfl (lt_ok rfl) (by kernel_rfl) rfl rfl rfl) ?_
 refine TL.cons rfl (Step.fieldAddr (q := 0) (off := 0) (n := 1) (one := true) rfl rfl (lt_ok rfl) (by kernel_rfl) (Nat.succ_ne_zero _) rfl) ?_
 refine TL.cons rfl (Step.load_box (c := .d (.sl 10 (b.f0.map SHead.cells))) rfl rfl (lt_ok rfl) (by kernel_rfl) rfl rfl rfl) ?_
 refine TL.cons rfl (Step.call (f := 80) (xs := [.tmp 6, .tmp 8]) (ps := [(.one (.d (.sl 10 (a.f0.map SHead.cells)))), (.one (.d (.sl 10 (b.f0.map SHead.cells))))]) false (g := .func 80) rfl rfl (lt_ok rfl) rfl (by kernel_rfl) rfl (.cons (.one (.d _)) (.cons (.one (.d _)) .nil)) (ok_laws_eqHeadS a.f0 b.f0) (.inr rfl) rfl (by simp) rfl) ?_
 refine TL.cons rfl (Step.not (b := (decide (a.f0 = b.f0))) rfl rfl (lt_ok rfl) rfl) ?_
 refine TL.nil ?_
 refine T.cond (b := !(decide (a.f0 = b.f0))) rfl (fun h1 => ?_) (fun h1 => ?_)
 ·
  replace h1 : (decide (a.f0 = b.f0)) = false := by simpa only [Bool.not_eq_true', Bool.not_eq_false'] using h1
  replace h1 := of_decide_eq_false h1
  refine T.seq ?_
  refine T.region ?_
  refine TL.cons rfl (Step.assign (p := (.one (.d (.bool false)))) rfl rfl (lt_ok rfl) rfl) ?_
  refine TL.nil ?_
  refine T.ret ?_
  exact ⟨[(false, [.d (.bool false)])], (.cons rfl .nil), rfl, [], (RetC.rd' (by (congr 1; symm; first | (apply decide_eq_false; rintro rfl; first | exact absurd rfl ‹¬ _ = _› | contradiction) | (apply decide_eq_true; apply SProof.ext <;> first | assumption | exact Decidable.not_not.1 (by assumption)))) .nil)⟩
 ·
  replace h1 : (decide (a.f0 = b.f0)) = true := by simpa only [Bool.not_eq_true', Bool.not_eq_false'] using h1
  replace h1 := of_decide_eq_true h1
  refine T.skip ?_
  refine T.seq ?_
  refine T.seq ?_
  refine T.region ?_
  refine TL.cons rfl (Step.fieldAddr (q := 0) (off := 1) (n := 5) (one := false) rfl rfl (lt_ok rfl) (by kernel_rfl) (Nat.succ_ne_zero _) rfl) ?_
  refine TL.cons rfl (Step.load_box_agg (n := 5) (qs := [.d (.int .i64 a.f1.f0), .d (.int .i64 a.f1.f1), .d (.ints .u8 a.f1.f2), .d (.ints .u8 a.f1.f3), .d (.bss a.f1.f4)]) rfl rfl (lt_ok rfl) (by kernel_rfl) rfl rfl rfl rfl) ?_
  refine TL.cons rfl (Step.fieldAddr (q := 0) (off := 1) (n := 5) (one := false) rfl rfl (lt_ok rfl) (by kernel_rfl) (Nat.succ_ne_zero _) rfl) ?_
  refine TL.cons rfl (Step.load_box_agg (n := 5) (qs := [.d (.int .i64 b.f1.f0), .d (.int .i64 b.f1.f1), .d (.ints .u8 b.f1.f2), .d (.ints .u8 b.f1.f3), .d (.bss b.f1.f4)]) rfl rfl (lt_ok rfl) (by kernel_rfl) rfl rfl rfl rfl) ?_
  refine TL.cons rfl (Step.call (f := 34) (xs := [.tmp 12, .tmp 14]) (ps := [(.agg [.d (.int .i64 a.f1.f0), .d (.int .i64 a.f1.f1), .d (.ints .u8 a.f1.f2), .d (.ints .u8 a.f1.f3), .d (.bss a.f1.f4)]), (.agg [.d (.int .i64 b.f1.f0), .d (.int .i64 b.f1.f1), .d (.ints .u8 b.f1.f2), .d (.ints .u8 b.f1.f3), .d (.bss b.f1.f4)])]) false (g := .func 34) rfl rfl (lt_ok rfl) rfl (by kernel_rfl) rfl (.cons (.agg (.cons (.d _) (.cons (.d _) (.cons (.d _) (.cons (.d _) (.cons (.d _) .nil)))))) (.cons (.agg (.cons (.d _) (.cons (.d _) (.cons (.d _) (.cons (.d _) (.cons (.d _) .nil)))))) .nil)) (ok_laws_eqQc a.f1 b.f1) (.inr rfl) rfl (by simp) rfl) ?_
  refine TL.cons rfl (Step.not (b := (decide (a.f1 = b.f1))) rfl rfl (lt_ok rfl) rfl) ?_
  refine TL.nil ?_
  refine T.cond (b := !(decide (a.f1 = b.f1))) rfl (fun h2 => ?_) (fun h2 => ?_)
  ·
   replace h2 : (decide (a.f1 = b.f1)) = false := by simpa only [Bool.not_eq_true', Bool.not_eq_false'] using h2
   replace h2 := of_decide_eq_false h2
   refine T.seq ?_
   refine T.region ?_
   refine TL.cons rfl (Step.assign (p := (.one (.d (.bool false)))) rfl rfl (lt_ok rfl) rfl) ?_
   refine TL.nil ?_
   refine T.ret ?_
   exact ⟨[(false, [.d (.bool false)])], (.cons rfl .nil), rfl, [], (RetC.rd' (by (congr 1; symm; first | (apply decide_eq_false; rintro rfl; first | exact absurd rfl ‹¬ _ = _› | contradiction) | (apply decide_eq_true; apply SProof.ext <;> first | assumption | exact Decidable.not_not.1 (by assumption)))) .nil)⟩
  ·
   replace h2 : (decide (a.f1 = b.f1)) = true := by simpa only [Bool.not_eq_true', Bool.not_eq_false'] using h2
   replace h2 := of_decide_eq_true h2
   refine T.skip ?_
   refine T.seq ?_
   refine T.region ?_
   refine TL.cons rfl (Step.assign (p := (.one (.d (.bool true)))) rfl rfl (lt_ok rfl) rfl) ?_
   refine TL.nil ?_
   refine T.ret ?_
   exact ⟨[(false, [.d (.bool true)])], (.cons rfl .nil), rfl, [], (RetC.rd' (by (congr 1; symm; first | (apply decide_eq_false; rintro rfl; first | exact absurd rfl ‹¬ _ = _› | contradiction) | (apply decide_eq_true; apply SProof.ext <;> first | assumption | exact Decidable.not_not.1 (by assumption)))) .nil)⟩
theorem ok_laws_markByteS (a : List Int) (k : Int) (h0_ : 0 ≤ k) (h1_ : k + (a.length : Int) ≤ 4611686018427387904) : MK Try.prog 23 [.one (.mk (.ints .u8 a) (.ints .u8 (mkB a k))), .one (.rd (.int .i64 k))] [(false, [.rd (.int .i64 (k + (a.length : Int)))])] := by
 refine MK.intro Try.func23 rfl 20 rfl (le_ok rfl) (le_ok rfl) rfl fun w Z IX pin Ts hp => ?_
 refine T.bndRow 900 rfl fun hb_900 => ?_
 simp only [D.size, List.length_map] at hb_900
 refine T.seq ?_
 refine T.region ?_
 refine TL.cons rfl (Step.assign (p := (.one (.d (.int .i64 0)))) rfl rfl (lt_ok rfl) rfl) ?_
 refine TL.nil ?_
 refine T.seq ?_
 refine T.seq ?_
 refine T.region ?_
 refine TL.cons rfl (Step.assign (p := (.one (.d (.int .i64 0)))) rfl rfl (lt_ok rfl) rfl) ?_
 refine TL.nil ?_
 refine T.block ?_
 refine T.loop (ι := Nat) (fun xx_ => { tm := [(0, (.one (.row 900 []))), (4, (.one (.d (.int .i64 0)))), (5, (.one (.d (.int .i64 (xx_ : Int))))), (1, (.one (.d (.int .i64 (k + (xx_ : Int))))))], rows := [(900, ((Ts 0), (.ints .u8 (upTo (fun _ => 1) (fun _ k => k % 256) a k xx_))))], boxes := [] }) (fun xx_ => xx_ ≤ a.length) (fun xx_ => a.length - xx_) 0 ?_ ?_ ?_
 · exact Env.le_mk ⟨rfl, rfl, by first | exact congrArg (fun x => some (Ts 0, D.ints .u8 x)) (upTo_set (df := 0) (by omega) (by simp only [cntL_one_take a i (by omega)])) | exact congrArg (fun x => some (Ts 0, D.ints .u8 x)) (upTo_zero _ _).symm | rfl | (refine congrArg (fun n => PV.one (.d (.int .i64 n))) ?_; first | omega | (simp; done) | (simp [cntL]; done)), by first | exact congrArg (fun x => some (Ts 0, D.ints .u8 x)) (upTo_set (df := 0) (by omega) (by simp only [cntL_one_take a i (by omega)])) | exact congrArg (fun x => some (Ts 0, D.ints .u8 x)) (upTo_zero _ _).symm | rfl | (refine congrArg (fun n => PV.one (.d (.int .i64 n))) ?_; first | omega | (simp; done) | (simp [cntL]; done)), trivial⟩ ⟨by first | exact congrArg (fun x => some (Ts 0, D.ints .u8 x)) (upTo_set (df := 0) (by omega) (by simp only [cntL_one_take a i (by omega)])) | exact congrArg (fun x => some (Ts 0, D.ints .u8 x)) (upTo_zero _ _).symm | rfl | (refine congrArg (fun n => PV.one (.d (.int .i64 n))) ?_; first | omega | (simp; done) | (simp [cntL]; done)), trivial⟩ trivial
 · exact Nat.zero_le _
 ·
  intro i hx
  try dsimp only at hx ⊢
  refine T.seq ?_
  refine T.seq ?_
  refine T.region ?_
  refine TL.cons rfl (Step.move (p := (.one (.d (.int .i64 (i : Int))))) rfl rfl (lt_ok rfl) rfl) ?_
  refine TL.cons rfl (Step.move (p := (.one (.row 900 []))) rfl rfl (lt_ok rfl) rfl) ?_
  refine TL.cons rfl (Step.len' (e := 5) (z := 1) (d := (.ints .u8 (upTo (fun _ => 1) (fun _ k => k % 256) a k i))) (n := a.length) rfl rfl (lt_ok rfl) (by kernel_rfl) rfl rfl (by simp [D.size, upTo_length])) ?_
  refine TL.cons rfl (Step.bin rfl rfl (lt_ok rfl) rfl rfl (Bin.lss (k := .i64) (a := (i : Int)) (b := (a.length : Int)))) ?_
  refine TL.nil ?_
  refine T.cond (b := decide ((i : Int) < (a.length : Int))) rfl (fun h1 => ?_) (fun h1 => ?_)
  ·
   replace h1 := of_decide_eq_true h1
   refine T.skip ?_
   refine T.seq ?_
   refine T.block ?_
   refine T.seq ?_
   refine T.region ?_
   refine TL.cons rfl (Step.move (p := (.one (.row 900 []))) rfl rfl (lt_ok rfl) rfl) ?_
   refine TL.cons rfl (Step.move (p := (.one (.d (.int .i64 (i : Int))))) rfl rfl (lt_ok rfl) rfl) ?_
   refine TL.cons rfl (Step.move (p := (.one (.d (.int .i64 (k + (i : Int)))))) rfl rfl (lt_ok rfl) rfl) ?_
   refine TL.cons rfl (Step.conv (c := ((k + (i : Int)) % 256)) rfl rfl (lt_ok rfl) (by kernel_rfl) (by kernel_rfl) rfl (wrap_byte _)) ?_
   refine TL.cons rfl (Step.index_row (d := (.ints .u8 (upTo (fun _ => 1) (fun _ k => k % 256) a k i))) (e := 5) (z := 1) (i := (i : Int)) rfl rfl (lt_ok rfl) (by kernel_rfl) rfl rfl rfl rfl (lt_ok rfl) rfl (by first | omega | (simp; omega)) (by simp only [D.at_, D.cell, D.size, List.length_set, List.length_map, upTo_length]; first | omega | (simp; omega))) ?_
   refine TL.cons rfl (Step.store_row (n := 1) (p := (.one (.d (.int .u8 ((k + (i : Int)) % 256))))) (ps := [.d (.int .u8 ((k + (i : Int)) % 256))]) (es := [(.int .u8 ((k + (i : Int)) % 256))]) (ss := []) (d1 := (.ints .u8 ((upTo (fun _ => 1) (fun _ k => k % 256) a k i).set i ((k + (i : Int)) % 256)))) (d' := (.ints .u8 ((upTo (fun _ => 1) (fun _ k => k % 256) a k i).set i ((k + (i : Int)) % 256)))) rfl rfl (by kernel_rfl) rfl rfl rfl rfl rfl rfl (.val rfl .nil) (by simp) (Putd.one rfl trivial rfl (by simp only [D.at_, D.size, List.length_set, upTo_length]; first | omega | (simp; omega)) (lt_ok rfl)) rfl) ?_
   refine TL.nil ?_
   refine T.region ?_
   refine TL.cons rfl (Step.move (p := (.one (.d (.int .i64 (k + (i : Int)))))) rfl rfl (lt_ok rfl) rfl) ?_
   refine TL.cons rfl (Step.bin (r := .int .i64 ((k + (i : Int)) + 1)) rfl rfl (lt_ok rfl) rfl rfl (Bin.add (a := (k + (i : Int))) (b := 1) (by first | exact wrap_ok (by first | omega | (simp; omega)) (by first | omega | (simp; omega)) | rfl))) ?_
   refine TL.cons rfl (Step.assign (p := (.one (.d (.int .i64 ((k + (i : Int)) + 1))))) rfl rfl (lt_ok rfl) rfl) ?_
   refine TL.nil ?_
   refine T.region ?_
   refine TL.cons rfl (Step.move (p := (.one (.d (.int .i64 (i : Int))))) rfl rfl (lt_ok rfl) rfl) ?_
   refine TL.cons rfl (Step.bin (r := .int .i64 ((i : Int) + 1)) rfl rfl (lt_ok rfl) rfl rfl (Bin.add (a := (i : Int)) (b := 1) (by first | exact wrap_ok (by first | omega | (simp; omega)) (by first | omega | (simp; omega)) | rfl))) ?_
   refine TL.cons rfl (Step.assign (p := (.one (.d (.int .i64 ((i : Int) + 1))))) rfl rfl (lt_ok rfl) rfl) ?_
   refine TL.nil ?_
   exact ⟨i + 1, by omega, by first | omega | (dsimp only; omega), Env.le_mk ⟨rfl, rfl, by first | exact congrArg (fun x => some (Ts 0, D.ints .u8 x)) (upTo_set (df := 0) (by omega) (by simp only [cntL_one_take a i (by omega)])) | exact congrArg (fun x => some (Ts 0, D.ints .u8 x)) (upTo_zero _ _).symm | rfl | (refine congrArg (fun n => PV.one (.d (.int .i64 n))) ?_; first | omega | (simp; done) | (simp [cntL]; done)), by first | exact congrArg (fun x => some (Ts 0, D.ints .u8 x)) (upTo_set (df := 0) (by omega) (by simp only [cntL_one_take a i (by omega)])) | exact congrArg (fun x => some (Ts 0, D.ints .u8 x)) (upTo_zero _ _).symm | rfl | (refine congrArg (fun n => PV.one (.d (.int .i64 n))) ?_; first | omega | (simp; done) | (simp [cntL]; done)), trivial⟩ ⟨by first | exact congrArg (fun x => some (Ts 0, D.ints .u8 x)) (upTo_set (df := 0) (by omega) (by simp only [cntL_one_take a i (by omega)])) | exact congrArg (fun x => some (Ts 0, D.ints .u8 x)) (upTo_zero _ _).symm | rfl | (refine congrArg (fun n => PV.one (.d (.int .i64 n))) ?_; first | omega | (simp; done) | (simp [cntL]; done)), trivial⟩ trivial⟩
  ·
   replace h1 := of_decide_eq_false h1
   refine T.exit ?_
   refine T.seq ?_
   refine T.region ?_
   refine TL.cons rfl (Step.move (p := (.one (.d (.int .i64 (k + (i : Int)))))) rfl rfl (lt_ok rfl) rfl) ?_
   refine TL.cons rfl (Step.assign (p := (.one (.d (.int .i64 (k + (i : Int)))))) rfl rfl (lt_ok rfl) rfl) ?_
   refine TL.nil ?_
   refine T.ret ?_
   exact ⟨⟨⟨[(false, [.d (.int .i64 (k + (i : Int)))])], (.cons rfl .nil), rfl, [], (RetC.rd' (by (congr 1; omega)) .nil)⟩, rfl⟩, (.mk' (by exact congrArg (fun x => some (Ts 0, D.ints .u8 x)) (upTo_all (by omega))) (.rd .nil'))⟩
theorem ok_laws_markByteSS (a : List (List Int)) (k : Int) (h0_ : 0 ≤ k) (h1_ : k + cntL (fun x : List Int => (x.length : Int)) a ≤ 4611686018427387904) : MK Try.prog 63 [.one (.mk (.bss a) (.bss (mkBs a k))), .one (.rd (.int .i64 k))] [(false, [.rd (.int .i64 (k + cntL (fun x : List Int => (x.length : Int)) a))])] := by
 refine MK.intro Try.func63 rfl 19 rfl (le_ok rfl) (le_ok rfl) rfl fun w Z IX pin Ts hp => ?_
 refine T.bndRow 900 rfl fun hb_900 => ?_
 simp only [D.size, List.length_map] at hb_900
 refine T.seq ?_
 refine T.region ?_
 refine TL.cons rfl (Step.assign (p := (.one (.d (.int .i64 0)))) rfl rfl (lt_ok rfl) rfl) ?_
 refine TL.nil ?_
 refine T.seq ?_
 refine T.seq ?_
 refine T.region ?_
 refine TL.cons rfl (Step.assign (p := (.one (.d (.int .i64 0)))) rfl rfl (lt_ok rfl) rfl) ?_
 refine TL.nil ?_
 refine T.block ?_
 refine T.loop (ι := Nat) (fun xx_ => { tm := [(0, (.one (.row 900 []))), (4, (.one (.d (.int .i64 0)))), (5, (.one (.d (.int .i64 (xx_ : Int))))), (1, (.one (.d (.int .i64 (k + cntL (fun x : List Int => (x.length : Int)) (a.take xx_))))))], rows := [(900, ((Ts 0), (.bss ((upTo (fun x : List Int => (x.length : Int)) mkB a k xx_).set xx_ (a.getD xx_ [])))))], boxes := [] }) (fun xx_ => xx_ ≤ a.length) (fun xx_ => a.length - xx_) 0 ?_ ?_ ?_
 · exact Env.le_mk ⟨rfl, rfl, by first | exact congrArg (fun x => some (Ts 0, D.bss x)) (upTo_next (df := []) (by omega) rfl) | exact congrArg (fun x => some (Ts 0, D.bss x)) (upTo_first a k []) | rfl | (refine congrArg (fun n => PV.one (.d (.int .i64 n))) ?_; first | omega | (simp; done) | (simp [cntL]; done)), by first | exact congrArg (fun x => some (Ts 0, D.bss x)) (upTo_next (df := []) (by omega) rfl) | exact congrArg (fun x => some (Ts 0, D.bss x)) (upTo_first a k []) | rfl | (refine congrArg (fun n => PV.one (.d (.int .i64 n))) ?_; first | omega | (simp; done) | (simp [cntL]; done)), trivial⟩ ⟨by first | exact congrArg (fun x => some (Ts 0, D.bss x)) (upTo_next (df := []) (by omega) rfl) | exact congrArg (fun x => some (Ts 0, D.bss x)) (upTo_first a k []) | rfl | (refine congrArg (fun n => PV.one (.d (.int .i64 n))) ?_; first | omega | (simp; done) | (simp [cntL]; done)), trivial⟩ trivial
 · exact Nat.zero_le _
 ·
  intro i hx
  try dsimp only at hx ⊢
  refine T.seq ?_
  refine T.seq ?_
  refine T.region ?_
  refine TL.cons rfl (Step.move (p := (.one (.d (.int .i64 (i : Int))))) rfl rfl (lt_ok rfl) rfl) ?_
  refine TL.cons rfl (Step.move (p := (.one (.row 900 []))) rfl rfl (lt_ok rfl) rfl) ?_
  refine TL.cons rfl (Step.len' (e := 24) (z := 1) (d := (.bss ((upTo (fun x : List Int => (x.length : Int)) mkB a k i).set i (a.getD i [])))) (n := a.length) rfl rfl (lt_ok rfl) (by kernel_rfl) rfl rfl (by simp [D.size, upTo_length])) ?_
  refine TL.cons rfl (Step.bin rfl rfl (lt_ok rfl) rfl rfl (Bin.lss (k := .i64) (a := (i : Int)) (b := (a.length : Int)))) ?_
  refine TL.nil ?_
  refine T.cond (b := decide ((i : Int) < (a.length : Int))) rfl (fun h1 => ?_) (fun h1 => ?_)
  ·
   replace h1 := of_decide_eq_true h1
   have hc1 := cntL_take_le (cnt := (fun x : List Int => (x.length : Int))) (fun x => by omega) a (i + 1)
   have hc2 := cntL_take_succ (cnt := (fun x : List Int => (x.length : Int))) (i := i) [] (show i < a.length by omega)
   have hc3 := cntL_nonneg (cnt := (fun x : List Int => (x.length : Int))) (fun x => by omega) (a.take i)
   try dsimp only at hc2
   refine T.skip ?_
   refine T.seq ?_
   refine T.block ?_
   refine T.region ?_
   refine TL.cons rfl (Step.move (p := (.one (.row 900 []))) rfl rfl (lt_ok rfl) rfl) ?_
   refine TL.cons rfl (Step.move (p := (.one (.d (.int .i64 (i : Int))))) rfl rfl (lt_ok rfl) rfl) ?_
   refine TL.cons rfl (Step.index_row (d := (.bss ((upTo (fun x : List Int => (x.length : Int)) mkB a k i).set i (a.getD i [])))) (e := 24) (z := 1) (i := (i : Int)) rfl rfl (lt_ok rfl) (by kernel_rfl) rfl rfl rfl rfl (lt_ok rfl) rfl (by first | omega | (simp; omega)) (by simp only [D.at_, D.cell, D.size, List.length_set, List.length_map, upTo_length]; first | omega | (simp; omega))) ?_
   refine TL.cons rfl (Step.load_row (d := (.bss ((upTo (fun x : List Int => (x.length : Int)) mkB a k i).set i (a.getD i [])))) (c := .row 900 [(i, 0)]) rfl rfl (lt_ok rfl) (by kernel_rfl) rfl rfl (ofRow_sl (cell_set_bss (by simp only [upTo_length]; first | omega | (simp; omega))) rfl)) ?_
   refine TL.cons rfl (Step.move (p := (.one (.d (.int .i64 (k + cntL (fun x : List Int => (x.length : Int)) (a.take i)))))) rfl rfl (lt_ok rfl) rfl) ?_
   refine TL.cons rfl (Step.callM (f := 23) (xs := [.tmp 15, .tmp 16]) (ps := [(.one (.row 900 [(i, 0)])), (.one (.d (.int .i64 (k + cntL (fun x : List Int => (x.length : Int)) (a.take i)))))]) (args := [.one (.mk (.ints .u8 (a.getD i [])) (.ints .u8 (mkB (a.getD i []) (k + cntL (fun x : List Int => (x.length : Int)) (a.take i))))), .one (.rd (.int .i64 (k + cntL (fun x : List Int => (x.length : Int)) (a.take i))))]) (js := [(900, (.bss ((upTo (fun x : List Int => (x.length : Int)) mkB a k i).set i (mkB (a.getD i []) (k + cntL (fun x : List Int => (x.length : Int)) (a.take i))))))]) (x := (.int .i64 ((k + cntL (fun x : List Int => (x.length : Int)) (a.take i)) + ((a.getD i []).length : Int)))) (g := .func 23) rfl rfl (lt_ok rfl) rfl (by kernel_rfl) rfl rfl (.row (T := (Ts 0)) (d := (.bss ((upTo (fun x : List Int => (x.length : Int)) mkB a k i).set i (a.getD i [])))) (e' := (.ints .u8 (mkB (a.getD i []) (k + cntL (fun x : List Int => (x.length : Int)) (a.take i))))) (d' := (.bss ((upTo (fun x : List Int => (x.length : Int)) mkB a k i).set i (mkB (a.getD i []) (k + cntL (fun x : List Int => (x.length : Int)) (a.take i)))))) rfl (cell_set_bss (by simp only [upTo_length]; first | omega | (simp; omega))) rfl putAt_bss2 rfl (by simp [D.size]) rfl rfl (.d .nil)) (ok_laws_markByteS (a.getD i []) (k + cntL (fun x : List Int => (x.length : Int)) (a.take i)) (by omega) (by first | omega | (have := (by assumption); omega))) rfl) ?_
   refine TL.cons rfl (Step.assign (p := (.one (.d (.int .i64 ((k + cntL (fun x : List Int => (x.length : Int)) (a.take i)) + ((a.getD i []).length : Int)))))) rfl rfl (lt_ok rfl) rfl) ?_
   refine TL.nil ?_
   refine T.region ?_
   refine TL.cons rfl (Step.move (p := (.one (.d (.int .i64 (i : Int))))) rfl rfl (lt_ok rfl) rfl) ?_
   refine TL.cons rfl (Step.bin (r := .int .i64 ((i : Int) + 1)) rfl rfl (lt_ok rfl) rfl rfl (Bin.add (a := (i : Int)) (b := 1) (by first | exact wrap_ok (by first | omega | (simp; omega)) (by first | omega | (simp; omega)) | rfl))) ?_
   refine TL.cons rfl (Step.assign (p := (.one (.d (.int .i64 ((i : Int) + 1))))) rfl rfl (lt_ok rfl) rfl) ?_
   refine TL.nil ?_
   exact ⟨i + 1, by omega, by first | omega | (dsimp only; omega), Env.le_mk ⟨rfl, rfl, by first | exact congrArg (fun x => some (Ts 0, D.bss x)) (upTo_next (df := []) (by omega) rfl) | exact congrArg (fun x => some (Ts 0, D.bss x)) (upTo_first a k []) | rfl | (refine congrArg (fun n => PV.one (.d (.int .i64 n))) ?_; first | omega | (simp; done) | (simp [cntL]; done)), by first | exact congrArg (fun x => some (Ts 0, D.bss x)) (upTo_next (df := []) (by omega) rfl) | exact congrArg (fun x => some (Ts 0, D.bss x)) (upTo_first a k []) | rfl | (refine congrArg (fun n => PV.one (.d (.int .i64 n))) ?_; first | omega | (simp; done) | (simp [cntL]; done)), trivial⟩ ⟨by first | exact congrArg (fun x => some (Ts 0, D.bss x)) (upTo_next (df := []) (by omega) rfl) | exact congrArg (fun x => some (Ts 0, D.bss x)) (upTo_first a k []) | rfl | (refine congrArg (fun n => PV.one (.d (.int .i64 n))) ?_; first | omega | (simp; done) | (simp [cntL]; done)), trivial⟩ trivial⟩
  ·
   replace h1 := of_decide_eq_false h1
   refine T.exit ?_
   refine T.seq ?_
   refine T.region ?_
   refine TL.cons rfl (Step.move (p := (.one (.d (.int .i64 (k + cntL (fun x : List Int => (x.length : Int)) (a.take i)))))) rfl rfl (lt_ok rfl) rfl) ?_
   refine TL.cons rfl (Step.assign (p := (.one (.d (.int .i64 (k + cntL (fun x : List Int => (x.length : Int)) (a.take i)))))) rfl rfl (lt_ok rfl) rfl) ?_
   refine TL.nil ?_
   refine T.ret ?_
   exact ⟨⟨⟨[(false, [.d (.int .i64 (k + cntL (fun x : List Int => (x.length : Int)) (a.take i)))])], (.cons rfl .nil), rfl, [], (RetC.rd' (by (congr 1; rw [cntL_all (by omega)])) .nil)⟩, rfl⟩, (.mk' (by exact congrArg (fun x => some (Ts 0, D.bss x)) (upTo_end (by omega))) (.rd .nil'))⟩
theorem ok_laws_markQc (a : SQc) (k : Int) (h0_ : 0 ≤ k) (h1_ : k + a.cm ≤ 4611686018427387904) : MK Try.prog 35 [.agg [.rd (.int .i64 a.f0), .rd (.int .i64 a.f1), .mk (.ints .u8 a.f2) (.ints .u8 (mkB a.f2 k)), .mk (.ints .u8 a.f3) (.ints .u8 (mkB a.f3 (k + (a.f2.length : Int)))), .mk (.bss a.f4) (.bss (mkBs a.f4 ((k + (a.f2.length : Int)) + (a.f3.length : Int))))], .one (.rd (.int .i64 k))] [(false, [.rd (.int .i64 (k + a.cm))])] := by
 refine MK.intro Try.func35 rfl 18 rfl (le_ok rfl) (le_ok rfl) rfl fun w Z IX pin Ts hp => ?_
 have n4 := cntBs_nonneg a.f4
 simp only [SQc.cm] at h1_
 refine T.seq ?_
 refine T.region ?_
 refine TL.cons rfl (Step.box (p := (.agg [.d (.int .i64 a.f0), .d (.int .i64 a.f1), .row 902 [], .row 903 [], .row 904 []])) (ps := [.d (.int .i64 a.f0), .d (.int .i64 a.f1), .row 902 [], .row 903 [], .row 904 []]) rfl rfl (lt_ok rfl) rfl rfl rfl rfl rfl) ?_
 refine TL.cons rfl (Step.assign (p := (.one (.d (.int .i64 0)))) rfl rfl (lt_ok rfl) rfl) ?_
 refine TL.nil ?_
 refine T.seq ?_
 refine T.region ?_
 refine TL.cons rfl (Step.fieldAddr (q := 0) (off := 2) (n := 1) (one := true) rfl rfl (lt_ok rfl) (by kernel_rfl) (Nat.succ_ne_zero _) rfl) ?_
 refine TL.cons rfl (Step.load_box (c := .row 902 []) rfl rfl (lt_ok rfl) (by kernel_rfl) rfl rfl rfl) ?_
 refine TL.cons rfl (Step.move (p := (.one (.d (.int .i64 k)))) rfl rfl (lt_ok rfl) rfl) ?_
 refine TL.cons rfl (Step.callM (f := 23) (xs := [.tmp 6, .tmp 7]) (ps := [(.one (.row 902 [])), (.one (.d (.int .i64 k)))]) (args := [.one (.mk (.ints .u8 a.f2) (.ints .u8 (mkB a.f2 k))), .one (.rd (.int .i64 k))]) (js := [(902, (.ints .u8 (mkB a.f2 k)))]) (x := (.int .i64 (k + (a.f2.length : Int)))) (g := .func 23) rfl rfl (lt_ok rfl) rfl (by kernel_rfl) rfl rfl (.row (T := (Ts 2)) (d := (.ints .u8 a.f2)) (e' := (.ints .u8 (mkB a.f2 k))) (d' := (.ints .u8 (mkB a.f2 k))) rfl rfl rfl rfl rfl (by simp [D.size, mkL_length]) rfl rfl (.d .nil)) (ok_laws_markByteS a.f2 k (by omega) (by first | omega | (have := (by assumption); omega))) rfl) ?_
 refine TL.cons rfl (Step.assign (p := (.one (.d (.int .i64 (k + (a.f2.length : Int)))))) rfl rfl (lt_ok rfl) rfl) ?_
 refine TL.nil ?_
 refine T.seq ?_
 refine T.region ?_
 refine TL.cons rfl (Step.fieldAddr (q := 0) (off := 3) (n := 1) (one := true) rfl rfl (lt_ok rfl) (by kernel_rfl) (Nat.succ_ne_zero _) rfl) ?_
 refine TL.cons rfl (Step.load_box (c := .row 903 []) rfl rfl (lt_ok rfl) (by kernel_rfl) rfl rfl rfl) ?_
 refine TL.cons rfl (Step.move (p := (.one (.d (.int .i64 (k + (a.f2.length : Int)))))) rfl rfl (lt_ok rfl) rfl) ?_
 refine TL.cons rfl (Step.callM (f := 23) (xs := [.tmp 10, .tmp 11]) (ps := [(.one (.row 903 [])), (.one (.d (.int .i64 (k + (a.f2.length : Int)))))]) (args := [.one (.mk (.ints .u8 a.f3) (.ints .u8 (mkB a.f3 (k + (a.f2.length : Int))))), .one (.rd (.int .i64 (k + (a.f2.length : Int))))]) (js := [(903, (.ints .u8 (mkB a.f3 (k + (a.f2.length : Int)))))]) (x := (.int .i64 ((k + (a.f2.length : Int)) + (a.f3.length : Int)))) (g := .func 23) rfl rfl (lt_ok rfl) rfl (by kernel_rfl) rfl rfl (.row (T := (Ts 3)) (d := (.ints .u8 a.f3)) (e' := (.ints .u8 (mkB a.f3 (k + (a.f2.length : Int))))) (d' := (.ints .u8 (mkB a.f3 (k + (a.f2.length : Int))))) rfl rfl rfl rfl rfl (by simp [D.size, mkL_length]) rfl rfl (.d .nil)) (ok_laws_markByteS a.f3 (k + (a.f2.length : Int)) (by omega) (by first | omega | (have := (by assumption); omega))) rfl) ?_
 refine TL.cons rfl (Step.assign (p := (.one (.d (.int .i64 ((k + (a.f2.length : Int)) + (a.f3.length : Int)))))) rfl rfl (lt_ok rfl) rfl) ?_
 refine TL.nil ?_
 refine T.seq ?_
 refine T.region ?_
 refine TL.cons rfl (Step.fieldAddr (q := 0) (off := 4) (n := 1) (one := true) rfl rfl (lt_ok rfl) (by kernel_rfl) (Nat.succ_ne_zero _) rfl) ?_
 refine TL.cons rfl (Step.load_box (c := .row 904 []) rfl rfl (lt_ok rfl) (by kernel_rfl) rfl rfl rfl) ?_
 refine TL.cons rfl (Step.move (p := (.one (.d (.int .i64 ((k + (a.f2.length : Int)) + (a.f3.length : Int)))))) rfl rfl (lt_ok rfl) rfl) ?_
 have nn1 := cntBs_nonneg a.f4
 refine TL.cons rfl (Step.callM (f := 63) (xs := [.tmp 14, .tmp 15]) (ps := [(.one (.row 904 [])), (.one (.d (.int .i64 ((k + (a.f2.length : Int)) + (a.f3.length : Int)))))]) (args := [.one (.mk (.bss a.f4) (.bss (mkBs a.f4 ((k + (a.f2.length : Int)) + (a.f3.length : Int))))), .one (.rd (.int .i64 ((k + (a.f2.length : Int)) + (a.f3.length : Int))))]) (js := [(904, (.bss (mkBs a.f4 ((k + (a.f2.length : Int)) + (a.f3.length : Int)))))]) (x := (.int .i64 (((k + (a.f2.length : Int)) + (a.f3.length : Int)) + cntL (fun x : List Int => (x.length : Int)) a.f4))) (g := .func 63) rfl rfl (lt_ok rfl) rfl (by kernel_rfl) rfl rfl (.row (T := (Ts 4)) (d := (.bss a.f4)) (e' := (.bss (mkBs a.f4 ((k + (a.f2.length : Int)) + (a.f3.length : Int))))) (d' := (.bss (mkBs a.f4 ((k + (a.f2.length : Int)) + (a.f3.length : Int))))) rfl rfl rfl rfl rfl (by simp [D.size, mkL_length]) rfl rfl (.d .nil)) (ok_laws_markByteSS a.f4 ((k + (a.f2.length : Int)) + (a.f3.length : Int)) (by omega) (by first | omega | (have := cntBs_le (xs := a.f4) (by assumption); omega))) rfl) ?_
 refine TL.cons rfl (Step.assign (p := (.one (.d (.int .i64 (((k + (a.f2.length : Int)) + (a.f3.length : Int)) + cntL (fun x : List Int => (x.length : Int)) a.f4))))) rfl rfl (lt_ok rfl) rfl) ?_
 refine TL.nil ?_
 refine T.seq ?_
 refine T.region ?_
 refine TL.cons rfl (Step.move (p := (.one (.d (.int .i64 (((k + (a.f2.length : Int)) + (a.f3.length : Int)) + cntL (fun x : List Int => (x.length : Int)) a.f4))))) rfl rfl (lt_ok rfl) rfl) ?_
 refine TL.cons rfl (Step.assign (p := (.one (.d (.int .i64 (((k + (a.f2.length : Int)) + (a.f3.length : Int)) + cntL (fun x : List Int => (x.length : Int)) a.f4))))) rfl rfl (lt_ok rfl) rfl) ?_
 refine TL.nil ?_
 refine T.ret ?_
 exact ⟨⟨⟨[(false, [.d (.int .i64 (((k + (a.f2.length : Int)) + (a.f3.length : Int)) + cntL (fun x : List Int => (x.length : Int)) a.f4))])], (.cons rfl .nil), rfl, [], (RetC.rd' (by first | rfl | (congr 1; simp only [SQc.cm]; omega)) .nil)⟩, rfl⟩, (.rd (.rd (.mk' (by rfl) (.mk' (by rfl) (.mk' (by rfl) (.rd .nil'))))))⟩
theorem ok_laws_markHeadS (a : List SHead) (k : Int) (h0_ : 0 ≤ k) (h1_ : k + cntL SHead.ce a ≤ 4611686018427387904) : MK Try.prog 81 [.one (.mk (.sl 10 (a.map SHead.cells)) (.sl 10 ((mkL SHead.ce SHead.me a k).map SHead.cells))), .one (.rd (.int .i64 k))] [(false, [.rd (.int .i64 (k + cntL SHead.ce a))])] := by
 refine MK.intro Try.func81 rfl 88 rfl (le_ok rfl) (le_ok rfl) rfl fun w Z IX pin Ts hp => ?_
 refine T.bndRow 900 rfl fun hb_900 => ?_
 simp only [D.size, List.length_map] at hb_900
 refine T.seq ?_
 refine T.region ?_
 refine TL.cons rfl (Step.assign (p := (.one (.d (.int .i64 0)))) rfl rfl (lt_ok rfl) rfl) ?_
 refine TL.nil ?_
 refine T.seq ?_
 refine T.seq ?_
 refine T.region ?_
 refine TL.cons rfl (Step.assign (p := (.one (.d (.int .i64 0)))) rfl rfl (lt_ok rfl) rfl) ?_
 refine TL.nil ?_
 refine T.block ?_
 refine T.loop (ι := Nat) (fun xx_ => { tm := [(0, (.one (.row 900 []))), (4, (.one (.d (.int .i64 0)))), (5, (.one (.d (.int .i64 (xx_ : Int))))), (1, (.one (.d (.int .i64 (k + cntL SHead.ce (a.take xx_))))))], rows := [(900, ((Ts 0), (.sl 10 (((upTo SHead.ce SHead.me a k xx_).set xx_ (a.getD xx_ default)).map SHead.cells))))], boxes := [] }) (fun xx_ => xx_ ≤ a.length) (fun xx_ => a.length - xx_) 0 ?_ ?_ ?_
 · exact Env.le_mk ⟨rfl, rfl, by first | exact congrArg (fun x => some (Ts 0, D.sl 10 (List.map SHead.cells x))) (upTo_next (df := default) (by omega) rfl) | exact congrArg (fun x => some (Ts 0, D.sl 10 (List.map SHead.cells x))) (upTo_first a k default) | rfl | (refine congrArg (fun n => PV.one (.d (.int .i64 n))) ?_; first | omega | (simp; done) | (simp [cntL]; done)), by first | exact congrArg (fun x => some (Ts 0, D.sl 10 (List.map SHead.cells x))) (upTo_next (df := default) (by omega) rfl) | exact congrArg (fun x => some (Ts 0, D.sl 10 (List.map SHead.cells x))) (upTo_first a k default) | rfl | (refine congrArg (fun n => PV.one (.d (.int .i64 n))) ?_; first | omega | (simp; done) | (simp [cntL]; done)), trivial⟩ ⟨by first | exact congrArg (fun x => some (Ts 0, D.sl 10 (List.map SHead.cells x))) (upTo_next (df := default) (by omega) rfl) | exact congrArg (fun x => some (Ts 0, D.sl 10 (List.map SHead.cells x))) (upTo_first a k default) | rfl | (refine congrArg (fun n => PV.one (.d (.int .i64 n))) ?_; first | omega | (simp; done) | (simp [cntL]; done)), trivial⟩ trivial
 · exact Nat.zero_le _
 ·
  intro i hx
  try dsimp only at hx ⊢
  refine T.seq ?_
  refine T.seq ?_
  refine T.region ?_
  refine TL.cons rfl (Step.move (p := (.one (.d (.int .i64 (i : Int))))) rfl rfl (lt_ok rfl) rfl) ?_
  refine TL.cons rfl (Step.move (p := (.one (.row 900 []))) rfl rfl (lt_ok rfl) rfl) ?_
  refine TL.cons rfl (Step.len' (e := 54) (z := 10) (d := (.sl 10 (((upTo SHead.ce SHead.me a k i).set i (a.getD i default)).map SHead.cells))) (n := a.length) rfl rfl (lt_ok rfl) (by kernel_rfl) rfl rfl (by simp [D.size, upTo_length])) ?_
  refine TL.cons rfl (Step.bin rfl rfl (lt_ok rfl) rfl rfl (Bin.lss (k := .i64) (a := (i : Int)) (b := (a.length : Int)))) ?_
  refine TL.nil ?_
  refine T.cond (b := decide ((i : Int) < (a.length : Int))) rfl (fun h1 => ?_) (fun h1 => ?_)
  ·
   replace h1 := of_decide_eq_true h1
   have hc1 := cntL_take_le (cnt := SHead.ce) SHead.ce_nn a (i + 1)
   have hc2 := cntL_take_succ (cnt := SHead.ce) (i := i) default (show i < a.length by omega)
   have hc3 := cntL_nonneg (cnt := SHead.ce) SHead.ce_nn (a.take i)
   have hc4 : SHead.ce (a.getD i default) = 1 + 1 + 1 + ((a.getD i default).f3.length : Int) + ((a.getD i default).f4.length : Int) + (1 + 1 + ((a.getD i default).f5.f2.length : Int) + ((a.getD i default).f5.f3.length : Int) + cntL (fun x : List Int => (x.length : Int)) (a.getD i default).f5.f4) := rfl
   have hn0 := cntBs_nonneg (a.getD i default).f5.f4
   refine T.skip ?_
   refine T.seq ?_
   refine T.block ?_
   refine T.seq ?_
   refine T.region ?_
   refine TL.cons rfl (Step.move (p := (.one (.row 900 []))) rfl rfl (lt_ok rfl) rfl) ?_
   refine TL.cons rfl (Step.move (p := (.one (.d (.int .i64 (i : Int))))) rfl rfl (lt_ok rfl) rfl) ?_
   refine TL.cons rfl (Step.move (p := (.one (.d (.int .i64 (k + cntL SHead.ce (a.take i)))))) rfl rfl (lt_ok rfl) rfl) ?_
   refine TL.cons rfl (Step.index_row (d := (.sl 10 (((upTo SHead.ce SHead.me a k i).set i (a.getD i default)).map SHead.cells))) (e := 54) (z := 10) (i := (i : Int)) rfl rfl (lt_ok rfl) (by kernel_rfl) rfl rfl rfl rfl (lt_ok rfl) rfl (by first | omega | (simp; omega)) (by simp only [D.at_, D.cell, D.size, List.length_set, List.length_map, upTo_length]; first | omega | (simp; omega))) ?_
   refine TL.cons rfl (Step.fieldAddr_r (d := (.sl 10 (((upTo SHead.ce SHead.me a k i).set i (a.getD i default)).map SHead.cells))) (j := 0) (off := 0) (n := 1) (one := true) rfl rfl (lt_ok rfl) (by kernel_rfl) (Nat.succ_ne_zero _) rfl rfl (lt_ok rfl)) ?_
   refine TL.cons rfl (Step.store_row (n := 1) (p := (.one (.d (.int .i64 (k + cntL SHead.ce (a.take i)))))) (ps := [.d (.int .i64 (k + cntL SHead.ce (a.take i)))]) (es := [(.int .i64 (k + cntL SHead.ce (a.take i)))]) (ss := []) (d1 := (.sl 10 (((upTo SHead.ce SHead.me a k i).set i (⟨k + cntL SHead.ce (a.take i), (a.getD i default).f1, (a.getD i default).f2, (a.getD i default).f3, (a.getD i default).f4, (a.getD i default).f5⟩ : SHead)).map SHead.cells))) (d' := (.sl 10 (((upTo SHead.ce SHead.me a k i).set i (⟨k + cntL SHead.ce (a.take i), (a.getD i default).f1, (a.getD i default).f2, (a.getD i default).f3, (a.getD i default).f4, (a.getD i default).f5⟩ : SHead)).map SHead.cells))) rfl rfl (by kernel_rfl) rfl rfl rfl rfl rfl rfl (.val rfl .nil) (by simp) (Putd.fld2 SHead.len (by simp only [upTo_length]; first | omega | (simp; omega)) (lt_ok rfl) rfl) rfl) ?_
   refine TL.nil ?_
   refine T.seq ?_
   refine T.region ?_
   refine TL.cons rfl (Step.move (p := (.one (.d (.int .i64 (k + cntL SHead.ce (a.take i)))))) rfl rfl (lt_ok rfl) rfl) ?_
   refine TL.cons rfl (Step.bin (r := .int .i64 ((k + cntL SHead.ce (a.take i)) + 1)) rfl rfl (lt_ok rfl) rfl rfl (Bin.add (a := (k + cntL SHead.ce (a.take i))) (b := 1) (by first | exact wrap_ok (by first | omega | (simp; omega)) (by first | omega | (simp; omega)) | rfl))) ?_
   refine TL.cons rfl (Step.assign (p := (.one (.d (.int .i64 ((k + cntL SHead.ce (a.take i)) + 1))))) rfl rfl (lt_ok rfl) rfl) ?_
   refine TL.nil ?_
   refine T.seq ?_
   refine T.region ?_
   refine TL.cons rfl (Step.move (p := (.one (.row 900 []))) rfl rfl (lt_ok rfl) rfl) ?_
   refine TL.cons rfl (Step.move (p := (.one (.d (.int .i64 (i : Int))))) rfl rfl (lt_ok rfl) rfl) ?_
   refine TL.cons rfl (Step.move (p := (.one (.d (.int .i64 ((k + cntL SHead.ce (a.take i)) + 1))))) rfl rfl (lt_ok rfl) rfl) ?_
   refine TL.cons rfl (Step.index_row (d := (.sl 10 (((upTo SHead.ce SHead.me a k i).set i (⟨k + cntL SHead.ce (a.take i), (a.getD i default).f1, (a.getD i default).f2, (a.getD i default).f3, (a.getD i default).f4, (a.getD i default).f5⟩ : SHead)).map SHead.cells))) (e := 54) (z := 10) (i := (i : Int)) rfl rfl (lt_ok rfl) (by kernel_rfl) rfl rfl rfl rfl (lt_ok rfl) rfl (by first | omega | (simp; omega)) (by simp only [D.at_, D.cell, D.size, List.length_set, List.length_map, upTo_length]; first | omega | (simp; omega))) ?_
   refine TL.cons rfl (Step.fieldAddr_r (d := (.sl 10 (((upTo SHead.ce SHead.me a k i).set i (⟨k + cntL SHead.ce (a.take i), (a.getD i default).f1, (a.getD i default).f2, (a.getD i default).f3, (a.getD i default).f4, (a.getD i default).f5⟩ : SHead)).map SHead.cells))) (j := 0) (off := 1) (n := 1) (one := true) rfl rfl (lt_ok rfl) (by kernel_rfl) (Nat.succ_ne_zero _) rfl rfl (lt_ok rfl)) ?_
   refine TL.cons rfl (Step.store_row (n := 1) (p := (.one (.d (.int .i64 ((k + cntL SHead.ce (a.take i)) + 1))))) (ps := [.d (.int .i64 ((k + cntL SHead.ce (a.take i)) + 1))]) (es := [(.int .i64 ((k + cntL SHead.ce (a.take i)) + 1))]) (ss := []) (d1 := (.sl 10 (((upTo SHead.ce SHead.me a k i).set i (⟨k + cntL SHead.ce (a.take i), (k + cntL SHead.ce (a.take i)) + 1, (a.getD i default).f2, (a.getD i default).f3, (a.getD i default).f4, (a.getD i default).f5⟩ : SHead)).map SHead.cells))) (d' := (.sl 10 (((upTo SHead.ce SHead.me a k i).set i (⟨k + cntL SHead.ce (a.take i), (k + cntL SHead.ce (a.take i)) + 1, (a.getD i default).f2, (a.getD i default).f3, (a.getD i default).f4, (a.getD i default).f5⟩ : SHead)).map SHead.cells))) rfl rfl (by kernel_rfl) rfl rfl rfl rfl rfl rfl (.val rfl .nil) (by simp) (Putd.fld2 SHead.len (by simp only [upTo_length]; first | omega | (simp; omega)) (lt_ok rfl) rfl) rfl) ?_
   refine TL.nil ?_
   refine T.seq ?_
   refine T.region ?_
   refine TL.cons rfl (Step.move (p := (.one (.d (.int .i64 ((k + cntL SHead.ce (a.take i)) + 1))))) rfl rfl (lt_ok rfl) rfl) ?_
   refine TL.cons rfl (Step.bin (r := .int .i64 (((k + cntL SHead.ce (a.take i)) + 1) + 1)) rfl rfl (lt_ok rfl) rfl rfl (Bin.add (a := ((k + cntL SHead.ce (a.take i)) + 1)) (b := 1) (by first | exact wrap_ok (by first | omega | (simp; omega)) (by first | omega | (simp; omega)) | rfl))) ?_
   refine TL.cons rfl (Step.assign (p := (.one (.d (.int .i64 (((k + cntL SHead.ce (a.take i)) + 1) + 1))))) rfl rfl (lt_ok rfl) rfl) ?_
   refine TL.nil ?_
   refine T.seq ?_
   refine T.region ?_
   refine TL.cons rfl (Step.move (p := (.one (.row 900 []))) rfl rfl (lt_ok rfl) rfl) ?_
   refine TL.cons rfl (Step.move (p := (.one (.d (.int .i64 (i : Int))))) rfl rfl (lt_ok rfl) rfl) ?_
   refine TL.cons rfl (Step.move (p := (.one (.d (.int .i64 (((k + cntL SHead.ce (a.take i)) + 1) + 1))))) rfl rfl (lt_ok rfl) rfl) ?_
   refine TL.cons rfl (Step.index_row (d := (.sl 10 (((upTo SHead.ce SHead.me a k i).set i (⟨k + cntL SHead.ce (a.take i), (k + cntL SHead.ce (a.take i)) + 1, (a.getD i default).f2, (a.getD i default).f3, (a.getD i default).f4, (a.getD i default).f5⟩ : SHead)).map SHead.cells))) (e := 54) (z := 10) (i := (i : Int)) rfl rfl (lt_ok rfl) (by kernel_rfl) rfl rfl rfl rfl (lt_ok rfl) rfl (by first | omega | (simp; omega)) (by simp only [D.at_, D.cell, D.size, List.length_set, List.length_map, upTo_length]; first | omega | (simp; omega))) ?_
   refine TL.cons rfl (Step.fieldAddr_r (d := (.sl 10 (((upTo SHead.ce SHead.me a k i).set i (⟨k + cntL SHead.ce (a.take i), (k + cntL SHead.ce (a.take i)) + 1, (a.getD i default).f2, (a.getD i default).f3, (a.getD i default).f4, (a.getD i default).f5⟩ : SHead)).map SHead.cells))) (j := 0) (off := 2) (n := 1) (one := true) rfl rfl (lt_ok rfl) (by kernel_rfl) (Nat.succ_ne_zero _) rfl rfl (lt_ok rfl)) ?_
   refine TL.cons rfl (Step.store_row (n := 1) (p := (.one (.d (.int .i64 (((k + cntL SHead.ce (a.take i)) + 1) + 1))))) (ps := [.d (.int .i64 (((k + cntL SHead.ce (a.take i)) + 1) + 1))]) (es := [(.int .i64 (((k + cntL SHead.ce (a.take i)) + 1) + 1))]) (ss := []) (d1 := (.sl 10 (((upTo SHead.ce SHead.me a k i).set i (⟨k + cntL SHead.ce (a.take i), (k + cntL SHead.ce (a.take i)) + 1, ((k + cntL SHead.ce (a.take i)) + 1) + 1, (a.getD i default).f3, (a.getD i default).f4, (a.getD i default).f5⟩ : SHead)).map SHead.cells))) (d' := (.sl 10 (((upTo SHead.ce SHead.me a k i).set i (⟨k + cntL SHead.ce (a.take i), (k + cntL SHead.ce (a.take i)) + 1, ((k + cntL SHead.ce (a.take i)) + 1) + 1, (a.getD i default).f3, (a.getD i default).f4, (a.getD i default).f5⟩ : SHead)).map SHead.cells))) rfl rfl (by kernel_rfl) rfl rfl rfl rfl rfl rfl (.val rfl .nil) (by simp) (Putd.fld2 SHead.len (by simp only [upTo_length]; first | omega | (simp; omega)) (lt_ok rfl) rfl) rfl) ?_
   refine TL.nil ?_
   refine T.seq ?_
   refine T.region ?_
   refine TL.cons rfl (Step.move (p := (.one (.d (.int .i64 (((k + cntL SHead.ce (a.take i)) + 1) + 1))))) rfl rfl (lt_ok rfl) rfl) ?_
   refine TL.cons rfl (Step.bin (r := .int .i64 ((((k + cntL SHead.ce (a.take i)) + 1) + 1) + 1)) rfl rfl (lt_ok rfl) rfl rfl (Bin.add (a := (((k + cntL SHead.ce (a.take i)) + 1) + 1)) (b := 1) (by first | exact wrap_ok (by first | omega | (simp; omega)) (by first | omega | (simp; omega)) | rfl))) ?_
   refine TL.cons rfl (Step.assign (p := (.one (.d (.int .i64 ((((k + cntL SHead.ce (a.take i)) + 1) + 1) + 1))))) rfl rfl (lt_ok rfl) rfl) ?_
   refine TL.nil ?_
   refine T.seq ?_
   refine T.region ?_
   refine TL.cons rfl (Step.move (p := (.one (.row 900 []))) rfl rfl (lt_ok rfl) rfl) ?_
   refine TL.cons rfl (Step.move (p := (.one (.d (.int .i64 (i : Int))))) rfl rfl (lt_ok rfl) rfl) ?_
   refine TL.cons rfl (Step.index_row (d := (.sl 10 (((upTo SHead.ce SHead.me a k i).set i (⟨k + cntL SHead.ce (a.take i), (k + cntL SHead.ce (a.take i)) + 1, ((k + cntL SHead.ce (a.take i)) + 1) + 1, (a.getD i default).f3, (a.getD i default).f4, (a.getD i default).f5⟩ : SHead)).map SHead.cells))) (e := 54) (z := 10) (i := (i : Int)) rfl rfl (lt_ok rfl) (by kernel_rfl) rfl rfl rfl rfl (lt_ok rfl) rfl (by first | omega | (simp; omega)) (by simp only [D.at_, D.cell, D.size, List.length_set, List.length_map, upTo_length]; first | omega | (simp; omega))) ?_
   refine TL.cons rfl (Step.fieldAddr_r (d := (.sl 10 (((upTo SHead.ce SHead.me a k i).set i (⟨k + cntL SHead.ce (a.take i), (k + cntL SHead.ce (a.take i)) + 1, ((k + cntL SHead.ce (a.take i)) + 1) + 1, (a.getD i default).f3, (a.getD i default).f4, (a.getD i default).f5⟩ : SHead)).map SHead.cells))) (j := 0) (off := 3) (n := 1) (one := true) rfl rfl (lt_ok rfl) (by kernel_rfl) (Nat.succ_ne_zero _) rfl rfl (lt_ok rfl)) ?_
   refine TL.cons rfl (Step.load_row (d := (.sl 10 (((upTo SHead.ce SHead.me a k i).set i (⟨k + cntL SHead.ce (a.take i), (k + cntL SHead.ce (a.take i)) + 1, ((k + cntL SHead.ce (a.take i)) + 1) + 1, (a.getD i default).f3, (a.getD i default).f4, (a.getD i default).f5⟩ : SHead)).map SHead.cells))) (c := .row 900 [(i, 3)]) rfl rfl (lt_ok rfl) (by kernel_rfl) rfl rfl (ofRow_sl (cell_set_sl (z := 10) (by simp only [upTo_length]; first | omega | (simp; omega)) rfl) rfl)) ?_
   refine TL.cons rfl (Step.move (p := (.one (.d (.int .i64 ((((k + cntL SHead.ce (a.take i)) + 1) + 1) + 1))))) rfl rfl (lt_ok rfl) rfl) ?_
   refine TL.cons rfl (Step.callM (f := 23) (xs := [.tmp 37, .tmp 38]) (ps := [(.one (.row 900 [(i, 3)])), (.one (.d (.int .i64 ((((k + cntL SHead.ce (a.take i)) + 1) + 1) + 1))))]) (args := [.one (.mk (.ints .u8 (a.getD i default).f3) (.ints .u8 (mkB (a.getD i default).f3 ((((k + cntL SHead.ce (a.take i)) + 1) + 1) + 1)))), .one (.rd (.int .i64 ((((k + cntL SHead.ce (a.take i)) + 1) + 1) + 1)))]) (js := [(900, (.sl 10 (((upTo SHead.ce SHead.me a k i).set i (⟨k + cntL SHead.ce (a.take i), (k + cntL SHead.ce (a.take i)) + 1, ((k + cntL SHead.ce (a.take i)) + 1) + 1, mkB (a.getD i default).f3 ((((k + cntL SHead.ce (a.take i)) + 1) + 1) + 1), (a.getD i default).f4, (a.getD i default).f5⟩ : SHead)).map SHead.cells)))]) (x := (.int .i64 (((((k + cntL SHead.ce (a.take i)) + 1) + 1) + 1) + ((a.getD i default).f3.length : Int)))) (g := .func 23) rfl rfl (lt_ok rfl) rfl (by kernel_rfl) rfl rfl (.row (T := (Ts 0)) (d := (.sl 10 (((upTo SHead.ce SHead.me a k i).set i (⟨k + cntL SHead.ce (a.take i), (k + cntL SHead.ce (a.take i)) + 1, ((k + cntL SHead.ce (a.take i)) + 1) + 1, (a.getD i default).f3, (a.getD i default).f4, (a.getD i default).f5⟩ : SHead)).map SHead.cells))) (e' := (.ints .u8 (mkB (a.getD i default).f3 ((((k + cntL SHead.ce (a.take i)) + 1) + 1) + 1)))) (d' := (.sl 10 (((upTo SHead.ce SHead.me a k i).set i (⟨k + cntL SHead.ce (a.take i), (k + cntL SHead.ce (a.take i)) + 1, ((k + cntL SHead.ce (a.take i)) + 1) + 1, mkB (a.getD i default).f3 ((((k + cntL SHead.ce (a.take i)) + 1) + 1) + 1), (a.getD i default).f4, (a.getD i default).f5⟩ : SHead)).map SHead.cells))) rfl (cell_set_sl (z := 10) (by simp only [upTo_length]; first | omega | (simp; omega)) rfl) rfl (putAt_fld2 (by simp only [upTo_length]; first | omega | (simp; omega)) rfl) rfl (by simp [D.size]) rfl rfl (.d .nil)) (ok_laws_markByteS (a.getD i default).f3 ((((k + cntL SHead.ce (a.take i)) + 1) + 1) + 1) (by omega) (by first | omega | (have := (by assumption); omega))) rfl) ?_
   refine TL.cons rfl (Step.assign (p := (.one (.d (.int .i64 (((((k + cntL SHead.ce (a.take i)) + 1) + 1) + 1) + ((a.getD i default).f3.length : Int)))))) rfl rfl (lt_ok rfl) rfl) ?_
   refine TL.nil ?_
   refine T.seq ?_
   refine T.region ?_
   refine TL.cons rfl (Step.move (p := (.one (.row 900 []))) rfl rfl (lt_ok rfl) rfl) ?_
   refine TL.cons rfl (Step.move (p := (.one (.d (.int .i64 (i : Int))))) rfl rfl (lt_ok rfl) rfl) ?_
   refine TL.cons rfl (Step.index_row (d := (.sl 10 (((upTo SHead.ce SHead.me a k i).set i (⟨k + cntL SHead.ce (a.take i), (k + cntL SHead.ce (a.take i)) + 1, ((k + cntL SHead.ce (a.take i)) + 1) + 1, mkB (a.getD i default).f3 ((((k + cntL SHead.ce (a.take i)) + 1) + 1) + 1), (a.getD i default).f4, (a.getD i default).f5⟩ : SHead)).map SHead.cells))) (e := 54) (z := 10) (i := (i : Int)) rfl rfl (lt_ok rfl) (by kernel_rfl) rfl rfl rfl rfl (lt_ok rfl) rfl (by first | omega | (simp; omega)) (by simp only [D.at_, D.cell, D.size, List.length_set, List.length_map, upTo_length]; first | omega | (simp; omega))) ?_
   refine TL.cons rfl (Step.fieldAddr_r (d := (.sl 10 (((upTo SHead.ce SHead.me a k i).set i (⟨k + cntL SHead.ce (a.take i), (k + cntL SHead.ce (a.take i)) + 1, ((k + cntL SHead.ce (a.take i)) + 1) + 1, mkB (a.getD i default).f3 ((((k + cntL SHead.ce (a.take i)) + 1) + 1) + 1), (a.getD i default).f4, (a.getD i default).f5⟩ : SHead)).map SHead.cells))) (j := 0) (off := 4) (n := 1) (one := true) rfl rfl (lt_ok rfl) (by kernel_rfl) (Nat.succ_ne_zero _) rfl rfl (lt_ok rfl)) ?_
   refine TL.cons rfl (Step.load_row (d := (.sl 10 (((upTo SHead.ce SHead.me a k i).set i (⟨k + cntL SHead.ce (a.take i), (k + cntL SHead.ce (a.take i)) + 1, ((k + cntL SHead.ce (a.take i)) + 1) + 1, mkB (a.getD i default).f3 ((((k + cntL SHead.ce (a.take i)) + 1) + 1) + 1), (a.getD i default).f4, (a.getD i default).f5⟩ : SHead)).map SHead.cells))) (c := .row 900 [(i, 4)]) rfl rfl (lt_ok rfl) (by kernel_rfl) rfl rfl (ofRow_sl (cell_set_sl (z := 10) (by simp only [upTo_length]; first | omega | (simp; omega)) rfl) rfl)) ?_
   refine TL.cons rfl (Step.move (p := (.one (.d (.int .i64 (((((k + cntL SHead.ce (a.take i)) + 1) + 1) + 1) + ((a.getD i default).f3.length : Int)))))) rfl rfl (lt_ok rfl) rfl) ?_
   refine TL.cons rfl (Step.callM (f := 23) (xs := [.tmp 44, .tmp 45]) (ps := [(.one (.row 900 [(i, 4)])), (.one (.d (.int .i64 (((((k + cntL SHead.ce (a.take i)) + 1) + 1) + 1) + ((a.getD i default).f3.length : Int)))))]) (args := [.one (.mk (.ints .u8 (a.getD i default).f4) (.ints .u8 (mkB (a.getD i default).f4 (((((k + cntL SHead.ce (a.take i)) + 1) + 1) + 1) + ((a.getD i default).f3.length : Int))))), .one (.rd (.int .i64 (((((k + cntL SHead.ce (a.take i)) + 1) + 1) + 1) + ((a.getD i default).f3.length : Int))))]) (js := [(900, (.sl 10 (((upTo SHead.ce SHead.me a k i).set i (⟨k + cntL SHead.ce (a.take i), (k + cntL SHead.ce (a.take i)) + 1, ((k + cntL SHead.ce (a.take i)) + 1) + 1, mkB (a.getD i default).f3 ((((k + cntL SHead.ce (a.take i)) + 1) + 1) + 1), mkB (a.getD i default).f4 (((((k + cntL SHead.ce (a.take i)) + 1) + 1) + 1) + ((a.getD i default).f3.length : Int)), (a.getD i default).f5⟩ : SHead)).map SHead.cells)))]) (x := (.int .i64 ((((((k + cntL SHead.ce (a.take i)) + 1) + 1) + 1) + ((a.getD i default).f3.length : Int)) + ((a.getD i default).f4.length : Int)))) (g := .func 23) rfl rfl (lt_ok rfl) rfl (by kernel_rfl) rfl rfl (.row (T := (Ts 0)) (d := (.sl 10 (((upTo SHead.ce SHead.me a k i).set i (⟨k + cntL SHead.ce (a.take i), (k + cntL SHead.ce (a.take i)) + 1, ((k + cntL SHead.ce (a.take i)) + 1) + 1, mkB (a.getD i default).f3 ((((k + cntL SHead.ce (a.take i)) + 1) + 1) + 1), (a.getD i default).f4, (a.getD i default).f5⟩ : SHead)).map SHead.cells))) (e' := (.ints .u8 (mkB (a.getD i default).f4 (((((k + cntL SHead.ce (a.take i)) + 1) + 1) + 1) + ((a.getD i default).f3.length : Int))))) (d' := (.sl 10 (((upTo SHead.ce SHead.me a k i).set i (⟨k + cntL SHead.ce (a.take i), (k + cntL SHead.ce (a.take i)) + 1, ((k + cntL SHead.ce (a.take i)) + 1) + 1, mkB (a.getD i default).f3 ((((k + cntL SHead.ce (a.take i)) + 1) + 1) + 1), mkB (a.getD i default).f4 (((((k + cntL SHead.ce (a.take i)) + 1) + 1) + 1) + ((a.getD i default).f3.length : Int)), (a.getD i default).f5⟩ : SHead)).map SHead.cells))) rfl (cell_set_sl (z := 10) (by simp only [upTo_length]; first | omega | (simp; omega)) rfl) rfl (putAt_fld2 (by simp only [upTo_length]; first | omega | (simp; omega)) rfl) rfl (by simp [D.size]) rfl rfl (.d .nil)) (ok_laws_markByteS (a.getD i default).f4 (((((k + cntL SHead.ce (a.take i)) + 1) + 1) + 1) + ((a.getD i default).f3.length : Int)) (by omega) (by first | omega | (have := (by assumption); omega))) rfl) ?_
   refine TL.cons rfl (Step.assign (p := (.one (.d (.int .i64 ((((((k + cntL SHead.ce (a.take i)) + 1) + 1) + 1) + ((a.getD i default).f3.length : Int)) + ((a.getD i default).f4.length : Int)))))) rfl rfl (lt_ok rfl) rfl) ?_
   refine TL.nil ?_
   refine T.seq ?_
   refine T.region ?_
   refine TL.cons rfl (Step.move (p := (.one (.row 900 []))) rfl rfl (lt_ok rfl) rfl) ?_
   refine TL.cons rfl (Step.move (p := (.one (.d (.int .i64 (i : Int))))) rfl rfl (lt_ok rfl) rfl) ?_
   refine TL.cons rfl (Step.move (p := (.one (.d (.int .i64 ((((((k + cntL SHead.ce (a.take i)) + 1) + 1) + 1) + ((a.getD i default).f3.length : Int)) + ((a.getD i default).f4.length : Int)))))) rfl rfl (lt_ok rfl) rfl) ?_
   refine TL.cons rfl (Step.index_row (d := (.sl 10 (((upTo SHead.ce SHead.me a k i).set i (⟨k + cntL SHead.ce (a.take i), (k + cntL SHead.ce (a.take i)) + 1, ((k + cntL SHead.ce (a.take i)) + 1) + 1, mkB (a.getD i default).f3 ((((k + cntL SHead.ce (a.take i)) + 1) + 1) + 1), mkB (a.getD i default).f4 (((((k + cntL SHead.ce (a.take i)) + 1) + 1) + 1) + ((a.getD i default).f3.length : Int)), (a.getD i default).f5⟩ : SHead)).map SHead.cells))) (e := 54) (z := 10) (i := (i : Int)) rfl rfl (lt_ok rfl) (by kernel_rfl) rfl rfl rfl rfl (lt_ok rfl) rfl (by first | omega | (simp; omega)) (by simp only [D.at_, D.cell, D.size, List.length_set, List.length_map, upTo_length]; first | omega | (simp; omega))) ?_
   refine TL.cons rfl (Step.fieldAddr_r (d := (.sl 10 (((upTo SHead.ce SHead.me a k i).set i (⟨k + cntL SHead.ce (a.take i), (k + cntL SHead.ce (a.take i)) + 1, ((k + cntL SHead.ce (a.take i)) + 1) + 1, mkB (a.getD i default).f3 ((((k + cntL SHead.ce (a.take i)) + 1) + 1) + 1), mkB (a.getD i default).f4 (((((k + cntL SHead.ce (a.take i)) + 1) + 1) + 1) + ((a.getD i default).f3.length : Int)), (a.getD i default).f5⟩ : SHead)).map SHead.cells))) (j := 0) (off := 5) (n := 5) (one := false) rfl rfl (lt_ok rfl) (by kernel_rfl) (Nat.succ_ne_zero _) rfl rfl (lt_ok rfl)) ?_
   refine TL.cons rfl (Step.fieldAddr_r (d := (.sl 10 (((upTo SHead.ce SHead.me a k i).set i (⟨k + cntL SHead.ce (a.take i), (k + cntL SHead.ce (a.take i)) + 1, ((k + cntL SHead.ce (a.take i)) + 1) + 1, mkB (a.getD i default).f3 ((((k + cntL SHead.ce (a.take i)) + 1) + 1) + 1), mkB (a.getD i default).f4 (((((k + cntL SHead.ce (a.take i)) + 1) + 1) + 1) + ((a.getD i default).f3.length : Int)), (a.getD i default).f5⟩ : SHead)).map SHead.cells))) (j := 5) (off := 0) (n := 1) (one := true) rfl rfl (lt_ok rfl) (by kernel_rfl) (Nat.succ_ne_zero _) rfl rfl (lt_ok rfl)) ?_
   refine TL.cons rfl (Step.store_row (n := 1) (p := (.one (.d (.int .i64 ((((((k + cntL SHead.ce (a.take i)) + 1) + 1) + 1) + ((a.getD i default).f3.length : Int)) + ((a.getD i default).f4.length : Int)))))) (ps := [.d (.int .i64 ((((((k + cntL SHead.ce (a.take i)) + 1) + 1) + 1) + ((a.getD i default).f3.length : Int)) + ((a.getD i default).f4.length : Int)))]) (es := [(.int .i64 ((((((k + cntL SHead.ce (a.take i)) + 1) + 1) + 1) + ((a.getD i default).f3.length : Int)) + ((a.getD i default).f4.length : Int)))]) (ss := []) (d1 := (.sl 10 (((upTo SHead.ce SHead.me a k i).set i (⟨k + cntL SHead.ce (a.take i), (k + cntL SHead.ce (a.take i)) + 1, ((k + cntL SHead.ce (a.take i)) + 1) + 1, mkB (a.getD i default).f3 ((((k + cntL SHead.ce (a.take i)) + 1) + 1) + 1), mkB (a.getD i default).f4 (((((k + cntL SHead.ce (a.take i)) + 1) + 1) + 1) + ((a.getD i default).f3.length : Int)), (⟨(((((k + cntL SHead.ce (a.take i)) + 1) + 1) + 1) + ((a.getD i default).f3.length : Int)) + ((a.getD i default).f4.length : Int), (a.getD i default).f5.f1, (a.getD i default).f5.f2, (a.getD i default).f5.f3, (a.getD i default).f5.f4⟩ : SQc)⟩ : SHead)).map SHead.cells))) (d' := (.sl 10 (((upTo SHead.ce SHead.me a k i).set i (⟨k + cntL SHead.ce (a.take i), (k + cntL SHead.ce (a.take i)) + 1, ((k + cntL SHead.ce (a.take i)) + 1) + 1, mkB (a.getD i default).f3 ((((k + cntL SHead.ce (a.take i)) + 1) + 1) + 1), mkB (a.getD i default).f4 (((((k + cntL SHead.ce (a.take i)) + 1) + 1) + 1) + ((a.getD i default).f3.length : Int)), (⟨(((((k + cntL SHead.ce (a.take i)) + 1) + 1) + 1) + ((a.getD i default).f3.length : Int)) + ((a.getD i default).f4.length : Int), (a.getD i default).f5.f1, (a.getD i default).f5.f2, (a.getD i default).f5.f3, (a.getD i default).f5.f4⟩ : SQc)⟩ : SHead)).map SHead.cells))) rfl rfl (by kernel_rfl) rfl rfl rfl rfl rfl rfl (.val rfl .nil) (by simp) (Putd.fld2 SHead.len (by simp only [upTo_length]; first | omega | (simp; omega)) (lt_ok rfl) rfl) rfl) ?_
   refine TL.nil ?_
   refine T.seq ?_
   refine T.region ?_
   refine TL.cons rfl (Step.move (p := (.one (.d (.int .i64 ((((((k + cntL SHead.ce (a.take i)) + 1) + 1) + 1) + ((a.getD i default).f3.length : Int)) + ((a.getD i default).f4.length : Int)))))) rfl rfl (lt_ok rfl) rfl) ?_
   refine TL.cons rfl (Step.bin (r := .int .i64 (((((((k + cntL SHead.ce (a.take i)) + 1) + 1) + 1) + ((a.getD i default).f3.length : Int)) + ((a.getD i default).f4.length : Int)) + 1)) rfl rfl (lt_ok rfl) rfl rfl (Bin.add (a := ((((((k + cntL SHead.ce (a.take i)) + 1) + 1) + 1) + ((a.getD i default).f3.length : Int)) + ((a.getD i default).f4.length : Int))) (b := 1) (by first | exact wrap_ok (by first | omega | (simp; omega)) (by first | omega | (simp; omega)) | rfl))) ?_
   refine TL.cons rfl (Step.assign (p := (.one (.d (.int .i64 (((((((k + cntL SHead.ce (a.take i)) + 1) + 1) + 1) + ((a.getD i default).f3.length : Int)) + ((a.getD i default).f4.length : Int)) + 1))))) rfl rfl (lt_ok rfl) rfl) ?_
   refine TL.nil ?_
   refine T.seq ?_
   refine T.region ?_
   refine TL.cons rfl (Step.move (p := (.one (.row 900 []))) rfl rfl (lt_ok rfl) rfl) ?_
   refine TL.cons rfl (Step.move (p := (.one (.d (.int .i64 (i : Int))))) rfl rfl (lt_ok rfl) rfl) ?_
   refine TL.cons rfl (Step.move (p := (.one (.d (.int .i64 (((((((k + cntL SHead.ce (a.take i)) + 1) + 1) + 1) + ((a.getD i default).f3.length : Int)) + ((a.getD i default).f4.length : Int)) + 1))))) rfl rfl (lt_ok rfl) rfl) ?_
   refine TL.cons rfl (Step.index_row (d := (.sl 10 (((upTo SHead.ce SHead.me a k i).set i (⟨k + cntL SHead.ce (a.take i), (k + cntL SHead.ce (a.take i)) + 1, ((k + cntL SHead.ce (a.take i)) + 1) + 1, mkB (a.getD i default).f3 ((((k + cntL SHead.ce (a.take i)) + 1) + 1) + 1), mkB (a.getD i default).f4 (((((k + cntL SHead.ce (a.take i)) + 1) + 1) + 1) + ((a.getD i default).f3.length : Int)), (⟨(((((k + cntL SHead.ce (a.take i)) + 1) + 1) + 1) + ((a.getD i default).f3.length : Int)) + ((a.getD i default).f4.length : Int), (a.getD i default).f5.f1, (a.getD i default).f5.f2, (a.getD i default).f5.f3, (a.getD i default).f5.f4⟩ : SQc)⟩ : SHead)).map SHead.cells))) (e := 54) (z := 10) (i := (i : Int)) rfl rfl (lt_ok rfl) (by kernel_rfl) rfl rfl rfl rfl (lt_ok rfl) rfl (by first | omega | (simp; omega)) (by simp only [D.at_, D.cell, D.size, List.length_set, List.length_map, upTo_length]; first | omega | (simp; omega))) ?_
   refine TL.cons rfl (Step.fieldAddr_r (d := (.sl 10 (((upTo SHead.ce SHead.me a k i).set i (⟨k + cntL SHead.ce (a.take i), (k + cntL SHead.ce (a.take i)) + 1, ((k + cntL SHead.ce (a.take i)) + 1) + 1, mkB (a.getD i default).f3 ((((k + cntL SHead.ce (a.take i)) + 1) + 1) + 1), mkB (a.getD i default).f4 (((((k + cntL SHead.ce (a.take i)) + 1) + 1) + 1) + ((a.getD i default).f3.length : Int)), (⟨(((((k + cntL SHead.ce (a.take i)) + 1) + 1) + 1) + ((a.getD i default).f3.length : Int)) + ((a.getD i default).f4.length : Int), (a.getD i default).f5.f1, (a.getD i default).f5.f2, (a.getD i default).f5.f3, (a.getD i default).f5.f4⟩ : SQc)⟩ : SHead)).map SHead.cells))) (j := 0) (off := 5) (n := 5) (one := false) rfl rfl (lt_ok rfl) (by kernel_rfl) (Nat.succ_ne_zero _) rfl rfl (lt_ok rfl)) ?_
   refine TL.cons rfl (Step.fieldAddr_r (d := (.sl 10 (((upTo SHead.ce SHead.me a k i).set i (⟨k + cntL SHead.ce (a.take i), (k + cntL SHead.ce (a.take i)) + 1, ((k + cntL SHead.ce (a.take i)) + 1) + 1, mkB (a.getD i default).f3 ((((k + cntL SHead.ce (a.take i)) + 1) + 1) + 1), mkB (a.getD i default).f4 (((((k + cntL SHead.ce (a.take i)) + 1) + 1) + 1) + ((a.getD i default).f3.length : Int)), (⟨(((((k + cntL SHead.ce (a.take i)) + 1) + 1) + 1) + ((a.getD i default).f3.length : Int)) + ((a.getD i default).f4.length : Int), (a.getD i default).f5.f1, (a.getD i default).f5.f2, (a.getD i default).f5.f3, (a.getD i default).f5.f4⟩ : SQc)⟩ : SHead)).map SHead.cells))) (j := 5) (off := 1) (n := 1) (one := true) rfl rfl (lt_ok rfl) (by kernel_rfl) (Nat.succ_ne_zero _) rfl rfl (lt_ok rfl)) ?_
   refine TL.cons rfl (Step.store_row (n := 1) (p := (.one (.d (.int .i64 (((((((k + cntL SHead.ce (a.take i)) + 1) + 1) + 1) + ((a.getD i default).f3.length : Int)) + ((a.getD i default).f4.length : Int)) + 1))))) (ps := [.d (.int .i64 (((((((k + cntL SHead.ce (a.take i)) + 1) + 1) + 1) + ((a.getD i default).f3.length : Int)) + ((a.getD i default).f4.length : Int)) + 1))]) (es := [(.int .i64 (((((((k + cntL SHead.ce (a.take i)) + 1) + 1) + 1) + ((a.getD i default).f3.length : Int)) + ((a.getD i default).f4.length : Int)) + 1))]) (ss := []) (d1 := (.sl 10 (((upTo SHead.ce SHead.me a k i).set i (⟨k + cntL SHead.ce (a.take i), (k + cntL SHead.ce (a.take i)) + 1, ((k + cntL SHead.ce (a.take i)) + 1) + 1, mkB (a.getD i default).f3 ((((k + cntL SHead.ce (a.take i)) + 1) + 1) + 1), mkB (a.getD i default).f4 (((((k + cntL SHead.ce (a.take i)) + 1) + 1) + 1) + ((a.getD i default).f3.length : Int)), (⟨(((((k + cntL SHead.ce (a.take i)) + 1) + 1) + 1) + ((a.getD i default).f3.length : Int)) + ((a.getD i default).f4.length : Int), ((((((k + cntL SHead.ce (a.take i)) + 1) + 1) + 1) + ((a.getD i default).f3.length : Int)) + ((a.getD i default).f4.length : Int)) + 1, (a.getD i default).f5.f2, (a.getD i default).f5.f3, (a.getD i default).f5.f4⟩ : SQc)⟩ : SHead)).map SHead.cells))) (d' := (.sl 10 (((upTo SHead.ce SHead.me a k i).set i (⟨k + cntL SHead.ce (a.take i), (k + cntL SHead.ce (a.take i)) + 1, ((k + cntL SHead.ce (a.take i)) + 1) + 1, mkB (a.getD i default).f3 ((((k + cntL SHead.ce (a.take i)) + 1) + 1) + 1), mkB (a.getD i default).f4 (((((k + cntL SHead.ce (a.take i)) + 1) + 1) + 1) + ((a.getD i default).f3.length : Int)), (⟨(((((k + cntL SHead.ce (a.take i)) + 1) + 1) + 1) + ((a.getD i default).f3.length : Int)) + ((a.getD i default).f4.length : Int), ((((((k + cntL SHead.ce (a.take i)) + 1) + 1) + 1) + ((a.getD i default).f3.length : Int)) + ((a.getD i default).f4.length : Int)) + 1, (a.getD i default).f5.f2, (a.getD i default).f5.f3, (a.getD i default).f5.f4⟩ : SQc)⟩ : SHead)).map SHead.cells))) rfl rfl (by kernel_rfl) rfl rfl rfl rfl rfl rfl (.val rfl .nil) (by simp) (Putd.fld2 SHead.len (by simp only [upTo_length]; first | omega | (simp; omega)) (lt_ok rfl) rfl) rfl) ?_
   refine TL.nil ?_
   refine T.seq ?_
   refine T.region ?_
   refine TL.cons rfl (Step.move (p := (.one (.d (.int .i64 (((((((k + cntL SHead.ce (a.take i)) + 1) + 1) + 1) + ((a.getD i default).f3.length : Int)) + ((a.getD i default).f4.length : Int)) + 1))))) rfl rfl (lt_ok rfl) rfl) ?_
   refine TL.cons rfl (Step.bin (r := .int .i64 ((((((((k + cntL SHead.ce (a.take i)) + 1) + 1) + 1) + ((a.getD i default).f3.length : Int)) + ((a.getD i default).f4.length : Int)) + 1) + 1)) rfl rfl (lt_ok rfl) rfl rfl (Bin.add (a := (((((((k + cntL SHead.ce (a.take i)) + 1) + 1) + 1) + ((a.getD i default).f3.length : Int)) + ((a.getD i default).f4.length : Int)) + 1)) (b := 1) (by first | exact wrap_ok (by first | omega | (simp; omega)) (by first | omega | (simp; omega)) | rfl))) ?_
   refine TL.cons rfl (Step.assign (p := (.one (.d (.int .i64 ((((((((k + cntL SHead.ce (a.take i)) + 1) + 1) + 1) + ((a.getD i default).f3.length : Int)) + ((a.getD i default).f4.length : Int)) + 1) + 1))))) rfl rfl (lt_ok rfl) rfl) ?_
   refine TL.nil ?_
   refine T.seq ?_
   refine T.region ?_
   refine TL.cons rfl (Step.move (p := (.one (.row 900 []))) rfl rfl (lt_ok rfl) rfl) ?_
   refine TL.cons rfl (Step.move (p := (.one (.d (.int .i64 (i : Int))))) rfl rfl (lt_ok rfl) rfl) ?_
   refine TL.cons rfl (Step.index_row (d := (.sl 10 (((upTo SHead.ce SHead.me a k i).set i (⟨k + cntL SHead.ce (a.take i), (k + cntL SHead.ce (a.take i)) + 1, ((k + cntL SHead.ce (a.take i)) + 1) + 1, mkB (a.getD i default).f3 ((((k + cntL SHead.ce (a.take i)) + 1) + 1) + 1), mkB (a.getD i default).f4 (((((k + cntL SHead.ce (a.take i)) + 1) + 1) + 1) + ((a.getD i default).f3.length : Int)), (⟨(((((k + cntL SHead.ce (a.take i)) + 1) + 1) + 1) + ((a.getD i default).f3.length : Int)) + ((a.getD i default).f4.length : Int), ((((((k + cntL SHead.ce (a.take i)) + 1) + 1) + 1) + ((a.getD i default).f3.length : Int)) + ((a.getD i default).f4.length : Int)) + 1, (a.getD i default).f5.f2, (a.getD i default).f5.f3, (a.getD i default).f5.f4⟩ : SQc)⟩ : SHead)).map SHead.cells))) (e := 54) (z := 10) (i := (i : Int)) rfl rfl (lt_ok rfl) (by kernel_rfl) rfl rfl rfl rfl (lt_ok rfl) rfl (by first | omega | (simp; omega)) (by simp only [D.at_, D.cell, D.size, List.length_set, List.length_map, upTo_length]; first | omega | (simp; omega))) ?_
   refine TL.cons rfl (Step.fieldAddr_r (d := (.sl 10 (((upTo SHead.ce SHead.me a k i).set i (⟨k + cntL SHead.ce (a.take i), (k + cntL SHead.ce (a.take i)) + 1, ((k + cntL SHead.ce (a.take i)) + 1) + 1, mkB (a.getD i default).f3 ((((k + cntL SHead.ce (a.take i)) + 1) + 1) + 1), mkB (a.getD i default).f4 (((((k + cntL SHead.ce (a.take i)) + 1) + 1) + 1) + ((a.getD i default).f3.length : Int)), (⟨(((((k + cntL SHead.ce (a.take i)) + 1) + 1) + 1) + ((a.getD i default).f3.length : Int)) + ((a.getD i default).f4.length : Int), ((((((k + cntL SHead.ce (a.take i)) + 1) + 1) + 1) + ((a.getD i default).f3.length : Int)) + ((a.getD i default).f4.length : Int)) + 1, (a.getD i default).f5.f2, (a.getD i default).f5.f3, (a.getD i default).f5.f4⟩ : SQc)⟩ : SHead)).map SHead.cells))) (j := 0) (off := 5) (n := 5) (one := false) rfl rfl (lt_ok rfl) (by kernel_rfl) (Nat.succ_ne_zero _) rfl rfl (lt_ok rfl)) ?_
   refine TL.cons rfl (Step.fieldAddr_r (d := (.sl 10 (((upTo SHead.ce SHead.me a k i).set i (⟨k + cntL SHead.ce (a.take i), (k + cntL SHead.ce (a.take i)) + 1, ((k + cntL SHead.ce (a.take i)) + 1) + 1, mkB (a.getD i default).f3 ((((k + cntL SHead.ce (a.take i)) + 1) + 1) + 1), mkB (a.getD i default).f4 (((((k + cntL SHead.ce (a.take i)) + 1) + 1) + 1) + ((a.getD i default).f3.length : Int)), (⟨(((((k + cntL SHead.ce (a.take i)) + 1) + 1) + 1) + ((a.getD i default).f3.length : Int)) + ((a.getD i default).f4.length : Int), ((((((k + cntL SHead.ce (a.take i)) + 1) + 1) + 1) + ((a.getD i default).f3.length : Int)) + ((a.getD i default).f4.length : Int)) + 1, (a.getD i default).f5.f2, (a.getD i default).f5.f3, (a.getD i default).f5.f4⟩ : SQc)⟩ : SHead)).map SHead.cells))) (j := 5) (off := 2) (n := 1) (one := true) rfl rfl (lt_ok rfl) (by kernel_rfl) (Nat.succ_ne_zero _) rfl rfl (lt_ok rfl)) ?_
   refine TL.cons rfl (Step.load_row (d := (.sl 10 (((upTo SHead.ce SHead.me a k i).set i (⟨k + cntL SHead.ce (a.take i), (k + cntL SHead.ce (a.take i)) + 1, ((k + cntL SHead.ce (a.take i)) + 1) + 1, mkB (a.getD i default).f3 ((((k + cntL SHead.ce (a.take i)) + 1) + 1) + 1), mkB (a.getD i default).f4 (((((k + cntL SHead.ce (a.take i)) + 1) + 1) + 1) + ((a.getD i default).f3.length : Int)), (⟨(((((k + cntL SHead.ce (a.take i)) + 1) + 1) + 1) + ((a.getD i default).f3.length : Int)) + ((a.getD i default).f4.length : Int), ((((((k + cntL SHead.ce (a.take i)) + 1) + 1) + 1) + ((a.getD i default).f3.length : Int)) + ((a.getD i default).f4.length : Int)) + 1, (a.getD i default).f5.f2, (a.getD i default).f5.f3, (a.getD i default).f5.f4⟩ : SQc)⟩ : SHead)).map SHead.cells))) (c := .row 900 [(i, 7)]) rfl rfl (lt_ok rfl) (by kernel_rfl) rfl rfl (ofRow_sl (cell_set_sl (z := 10) (by simp only [upTo_length]; first | omega | (simp; omega)) rfl) rfl)) ?_
   refine TL.cons rfl (Step.move (p := (.one (.d (.int .i64 ((((((((k + cntL SHead.ce (a.take i)) + 1) + 1) + 1) + ((a.getD i default).f3.length : Int)) + ((a.getD i default).f4.length : Int)) + 1) + 1))))) rfl rfl (lt_ok rfl) rfl) ?_
   refine TL.cons rfl (Step.callM (f := 23) (xs := [.tmp 68, .tmp 69]) (ps := [(.one (.row 900 [(i, 7)])), (.one (.d (.int .i64 ((((((((k + cntL SHead.ce (a.take i)) + 1) + 1) + 1) + ((a.getD i default).f3.length : Int)) + ((a.getD i default).f4.length : Int)) + 1) + 1))))]) (args := [.one (.mk (.ints .u8 (a.getD i default).f5.f2) (.ints .u8 (mkB (a.getD i default).f5.f2 ((((((((k + cntL SHead.ce (a.take i)) + 1) + 1) + 1) + ((a.getD i default).f3.length : Int)) + ((a.getD i default).f4.length : Int)) + 1) + 1)))), .one (.rd (.int .i64 ((((((((k + cntL SHead.ce (a.take i)) + 1) + 1) + 1) + ((a.getD i default).f3.length : Int)) + ((a.getD i default).f4.length : Int)) + 1) + 1)))]) (js := [(900, (.sl 10 (((upTo SHead.ce SHead.me a k i).set i (⟨k + cntL SHead.ce (a.take i), (k + cntL SHead.ce (a.take i)) + 1, ((k + cntL SHead.ce (a.take i)) + 1) + 1, mkB (a.getD i default).f3 ((((k + cntL SHead.ce (a.take i)) + 1) + 1) + 1), mkB (a.getD i default).f4 (((((k + cntL SHead.ce (a.take i)) + 1) + 1) + 1) + ((a.getD i default).f3.length : Int)), (⟨(((((k + cntL SHead.ce (a.take i)) + 1) + 1) + 1) + ((a.getD i default).f3.length : Int)) + ((a.getD i default).f4.length : Int), ((((((k + cntL SHead.ce (a.take i)) + 1) + 1) + 1) + ((a.getD i default).f3.length : Int)) + ((a.getD i default).f4.length : Int)) + 1, mkB (a.getD i default).f5.f2 ((((((((k + cntL SHead.ce (a.take i)) + 1) + 1) + 1) + ((a.getD i default).f3.length : Int)) + ((a.getD i default).f4.length : Int)) + 1) + 1), (a.getD i default).f5.f3, (a.getD i default).f5.f4⟩ : SQc)⟩ : SHead)).map SHead.cells)))]) (x := (.int .i64 (((((((((k + cntL SHead.ce (a.take i)) + 1) + 1) + 1) + ((a.getD i default).f3.length : Int)) + ((a.getD i default).f4.length : Int)) + 1) + 1) + ((a.getD i default).f5.f2.length : Int)))) (g := .func 23) rfl rfl (lt_ok rfl) rfl (by kernel_rfl) rfl rfl (.row (T := (Ts 0)) (d := (.sl 10 (((upTo SHead.ce SHead.me a k i).set i (⟨k + cntL SHead.ce (a.take i), (k + cntL SHead.ce (a.take i)) + 1, ((k + cntL SHead.ce (a.take i)) + 1) + 1, mkB (a.getD i default).f3 ((((k + cntL SHead.ce (a.take i)) + 1) + 1) + 1), mkB (a.getD i default).f4 (((((k + cntL SHead.ce (a.take i)) + 1) + 1) + 1) + ((a.getD i default).f3.length : Int)), (⟨(((((k + cntL SHead.ce (a.take i)) + 1) + 1) + 1) + ((a.getD i default).f3.length : Int)) + ((a.getD i default).f4.length : Int), ((((((k + cntL SHead.ce (a.take i)) + 1) + 1) + 1) + ((a.getD i default).f3.length : Int)) + ((a.getD i default).f4.length : Int)) + 1, (a.getD i default).f5.f2, (a.getD i default).f5.f3, (a.getD i default).f5.f4⟩ : SQc)⟩ : SHead)).map SHead.cells))) (e' := (.ints .u8 (mkB (a.getD i default).f5.f2 ((((((((k + cntL SHead.ce (a.take i)) + 1) + 1) + 1) + ((a.getD i default).f3.length : Int)) + ((a.getD i default).f4.length : Int)) + 1) + 1)))) (d' := (.sl 10 (((upTo SHead.ce SHead.me a k i).set i (⟨k + cntL SHead.ce (a.take i), (k + cntL SHead.ce (a.take i)) + 1, ((k + cntL SHead.ce (a.take i)) + 1) + 1, mkB (a.getD i default).f3 ((((k + cntL SHead.ce (a.take i)) + 1) + 1) + 1), mkB (a.getD i default).f4 (((((k + cntL SHead.ce (a.take i)) + 1) + 1) + 1) + ((a.getD i default).f3.length : Int)), (⟨(((((k + cntL SHead.ce (a.take i)) + 1) + 1) + 1) + ((a.getD i default).f3.length : Int)) + ((a.getD i default).f4.length : Int), ((((((k + cntL SHead.ce (a.take i)) + 1) + 1) + 1) + ((a.getD i default).f3.length : Int)) + ((a.getD i default).f4.length : Int)) + 1, mkB (a.getD i default).f5.f2 ((((((((k + cntL SHead.ce (a.take i)) + 1) + 1) + 1) + ((a.getD i default).f3.length : Int)) + ((a.getD i default).f4.length : Int)) + 1) + 1), (a.getD i default).f5.f3, (a.getD i default).f5.f4⟩ : SQc)⟩ : SHead)).map SHead.cells))) rfl (cell_set_sl (z := 10) (by simp only [upTo_length]; first | omega | (simp; omega)) rfl) rfl (putAt_fld2 (by simp only [upTo_length]; first | omega | (simp; omega)) rfl) rfl (by simp [D.size]) rfl rfl (.d .nil)) (ok_laws_markByteS (a.getD i default).f5.f2 ((((((((k + cntL SHead.ce (a.take i)) + 1) + 1) + 1) + ((a.getD i default).f3.length : Int)) + ((a.getD i default).f4.length : Int)) + 1) + 1) (by omega) (by first | omega | (have := (by assumption); omega))) rfl) ?_
   refine TL.cons rfl (Step.assign (p := (.one (.d (.int .i64 (((((((((k + cntL SHead.ce (a.take i)) + 1) + 1) + 1) + ((a.getD i default).f3.length : Int)) + ((a.getD i default).f4.length : Int)) + 1) + 1) + ((a.getD i default).f5.f2.length : Int)))))) rfl rfl (lt_ok rfl) rfl) ?_
   refine TL.nil ?_
   refine T.weaken (E' := { tm := [(0, (.one (.row 900 []))), (4, (.one (.d (.int .i64 0)))), (5, (.one (.d (.int .i64 (i : Int))))), (1, (.one (.d (.int .i64 (((((((((k + cntL SHead.ce (a.take i)) + 1) + 1) + 1) + ((a.getD i default).f3.length : Int)) + ((a.getD i default).f4.length : Int)) + 1) + 1) + ((a.getD i default).f5.f2.length : Int))))))], rows := [(900, ((Ts 0), (.sl 10 (((upTo SHead.ce SHead.me a k i).set i (⟨k + cntL SHead.ce (a.take i), (k + cntL SHead.ce (a.take i)) + 1, ((k + cntL SHead.ce (a.take i)) + 1) + 1, mkB (a.getD i default).f3 ((((k + cntL SHead.ce (a.take i)) + 1) + 1) + 1), mkB (a.getD i default).f4 (((((k + cntL SHead.ce (a.take i)) + 1) + 1) + 1) + ((a.getD i default).f3.length : Int)), (⟨(((((k + cntL SHead.ce (a.take i)) + 1) + 1) + 1) + ((a.getD i default).f3.length : Int)) + ((a.getD i default).f4.length : Int), ((((((k + cntL SHead.ce (a.take i)) + 1) + 1) + 1) + ((a.getD i default).f3.length : Int)) + ((a.getD i default).f4.length : Int)) + 1, mkB (a.getD i default).f5.f2 ((((((((k + cntL SHead.ce (a.take i)) + 1) + 1) + 1) + ((a.getD i default).f3.length : Int)) + ((a.getD i default).f4.length : Int)) + 1) + 1), (a.getD i default).f5.f3, (a.getD i default).f5.f4⟩ : SQc)⟩ : SHead)).map SHead.cells))))], boxes := [] }) (Env.le_mk ⟨by kernel_rfl, by kernel_rfl, by kernel_rfl, by kernel_rfl, trivial⟩ ⟨by kernel_rfl, trivial⟩ trivial) ?_
   refine T.seq ?_
   refine T.region ?_
   refine TL.cons rfl (Step.move (p := (.one (.row 900 []))) rfl rfl (lt_ok rfl) rfl) ?_
   refine TL.cons rfl (Step.move (p := (.one (.d (.int .i64 (i : Int))))) rfl rfl (lt_ok rfl) rfl) ?_
   refine TL.cons rfl (Step.index_row (d := (.sl 10 (((upTo SHead.ce SHead.me a k i).set i (⟨k + cntL SHead.ce (a.take i), (k + cntL SHead.ce (a.take i)) + 1, ((k + cntL SHead.ce (a.take i)) + 1) + 1, mkB (a.getD i default).f3 ((((k + cntL SHead.ce (a.take i)) + 1) + 1) + 1), mkB (a.getD i default).f4 (((((k + cntL SHead.ce (a.take i)) + 1) + 1) + 1) + ((a.getD i default).f3.length : Int)), (⟨(((((k + cntL SHead.ce (a.take i)) + 1) + 1) + 1) + ((a.getD i default).f3.length : Int)) + ((a.getD i default).f4.length : Int), ((((((k + cntL SHead.ce (a.take i)) + 1) + 1) + 1) + ((a.getD i default).f3.length : Int)) + ((a.getD i default).f4.length : Int)) + 1, mkB (a.getD i default).f5.f2 ((((((((k + cntL SHead.ce (a.take i)) + 1) + 1) + 1) + ((a.getD i default).f3.length : Int)) + ((a.getD i default).f4.length : Int)) + 1) + 1), (a.getD i default).f5.f3, (a.getD i default).f5.f4⟩ : SQc)⟩ : SHead)).map SHead.cells))) (e := 54) (z := 10) (i := (i : Int)) rfl rfl (lt_ok rfl) (by kernel_rfl) rfl rfl rfl rfl (lt_ok rfl) rfl (by first | omega | (simp; omega)) (by simp only [D.at_, D.cell, D.size, List.length_set, List.length_map, upTo_length]; first | omega | (simp; omega))) ?_
   refine TL.cons rfl (Step.fieldAddr_r (d := (.sl 10 (((upTo SHead.ce SHead.me a k i).set i (⟨k + cntL SHead.ce (a.take i), (k + cntL SHead.ce (a.take i)) + 1, ((k + cntL SHead.ce (a.take i)) + 1) + 1, mkB (a.getD i default).f3 ((((k + cntL SHead.ce (a.take i)) + 1) + 1) + 1), mkB (a.getD i default).f4 (((((k + cntL SHead.ce (a.take i)) + 1) + 1) + 1) + ((a.getD i default).f3.length : Int)), (⟨(((((k + cntL SHead.ce (a.take i)) + 1) + 1) + 1) + ((a.getD i default).f3.length : Int)) + ((a.getD i default).f4.length : Int), ((((((k + cntL SHead.ce (a.take i)) + 1) + 1) + 1) + ((a.getD i default).f3.length : Int)) + ((a.getD i default).f4.length : Int)) + 1, mkB (a.getD i default).f5.f2 ((((((((k + cntL SHead.ce (a.take i)) + 1) + 1) + 1) + ((a.getD i default).f3.length : Int)) + ((a.getD i default).f4.length : Int)) + 1) + 1), (a.getD i default).f5.f3, (a.getD i default).f5.f4⟩ : SQc)⟩ : SHead)).map SHead.cells))) (j := 0) (off := 5) (n := 5) (one := false) rfl rfl (lt_ok rfl) (by kernel_rfl) (Nat.succ_ne_zero _) rfl rfl (lt_ok rfl)) ?_
   refine TL.cons rfl (Step.fieldAddr_r (d := (.sl 10 (((upTo SHead.ce SHead.me a k i).set i (⟨k + cntL SHead.ce (a.take i), (k + cntL SHead.ce (a.take i)) + 1, ((k + cntL SHead.ce (a.take i)) + 1) + 1, mkB (a.getD i default).f3 ((((k + cntL SHead.ce (a.take i)) + 1) + 1) + 1), mkB (a.getD i default).f4 (((((k + cntL SHead.ce (a.take i)) + 1) + 1) + 1) + ((a.getD i default).f3.length : Int)), (⟨(((((k + cntL SHead.ce (a.take i)) + 1) + 1) + 1) + ((a.getD i default).f3.length : Int)) + ((a.getD i default).f4.length : Int), ((((((k + cntL SHead.ce (a.take i)) + 1) + 1) + 1) + ((a.getD i default).f3.length : Int)) + ((a.getD i default).f4.length : Int)) + 1, mkB (a.getD i default).f5.f2 ((((((((k + cntL SHead.ce (a.take i)) + 1) + 1) + 1) + ((a.getD i default).f3.length : Int)) + ((a.getD i default).f4.length : Int)) + 1) + 1), (a.getD i default).f5.f3, (a.getD i default).f5.f4⟩ : SQc)⟩ : SHead)).map SHead.cells))) (j := 5) (off := 3) (n := 1) (one := true) rfl rfl (lt_ok rfl) (by kernel_rfl) (Nat.succ_ne_zero _) rfl rfl (lt_ok rfl)) ?_
   refine TL.cons rfl (Step.load_row (d := (.sl 10 (((upTo SHead.ce SHead.me a k i).set i (⟨k + cntL SHead.ce (a.take i), (k + cntL SHead.ce (a.take i)) + 1, ((k + cntL SHead.ce (a.take i)) + 1) + 1, mkB (a.getD i default).f3 ((((k + cntL SHead.ce (a.take i)) + 1) + 1) + 1), mkB (a.getD i default).f4 (((((k + cntL SHead.ce (a.take i)) + 1) + 1) + 1) + ((a.getD i default).f3.length : Int)), (⟨(((((k + cntL SHead.ce (a.take i)) + 1) + 1) + 1) + ((a.getD i default).f3.length : Int)) + ((a.getD i default).f4.length : Int), ((((((k + cntL SHead.ce (a.take i)) + 1) + 1) + 1) + ((a.getD i default).f3.length : Int)) + ((a.getD i default).f4.length : Int)) + 1, mkB (a.getD i default).f5.f2 ((((((((k + cntL SHead.ce (a.take i)) + 1) + 1) + 1) + ((a.getD i default).f3.length : Int)) + ((a.getD i default).f4.length : Int)) + 1) + 1), (a.getD i default).f5.f3, (a.getD i default).f5.f4⟩ : SQc)⟩ : SHead)).map SHead.cells))) (c := .row 900 [(i, 8)]) rfl rfl (lt_ok rfl) (by kernel_rfl) rfl rfl (ofRow_sl (cell_set_sl (z := 10) (by simp only [upTo_length]; first | omega | (simp; omega)) rfl) rfl)) ?_
   refine TL.cons rfl (Step.move (p := (.one (.d (.int .i64 (((((((((k + cntL SHead.ce (a.take i)) + 1) + 1) + 1) + ((a.getD i default).f3.length : Int)) + ((a.getD i default).f4.length : Int)) + 1) + 1) + ((a.getD i default).f5.f2.length : Int)))))) rfl rfl (lt_ok rfl) rfl) ?_
   refine TL.cons rfl (Step.callM (f := 23) (xs := [.tmp 76, .tmp 77]) (ps := [(.one (.row 900 [(i, 8)])), (.one (.d (.int .i64 (((((((((k + cntL SHead.ce (a.take i)) + 1) + 1) + 1) + ((a.getD i default).f3.length : Int)) + ((a.getD i default).f4.length : Int)) + 1) + 1) + ((a.getD i default).f5.f2.length : Int)))))]) (args := [.one (.mk (.ints .u8 (a.getD i default).f5.f3) (.ints .u8 (mkB (a.getD i default).f5.f3 (((((((((k + cntL SHead.ce (a.take i)) + 1) + 1) + 1) + ((a.getD i default).f3.length : Int)) + ((a.getD i default).f4.length : Int)) + 1) + 1) + ((a.getD i default).f5.f2.length : Int))))), .one (.rd (.int .i64 (((((((((k + cntL SHead.ce (a.take i)) + 1) + 1) + 1) + ((a.getD i default).f3.length : Int)) + ((a.getD i default).f4.length : Int)) + 1) + 1) + ((a.getD i default).f5.f2.length : Int))))]) (js := [(900, (.sl 10 (((upTo SHead.ce SHead.me a k i).set i (⟨k + cntL SHead.ce (a.take i), (k + cntL SHead.ce (a.take i)) + 1, ((k + cntL SHead.ce (a.take i)) + 1) + 1, mkB (a.getD i default).f3 ((((k + cntL SHead.ce (a.take i)) + 1) + 1) + 1), mkB (a.getD i default).f4 (((((k + cntL SHead.ce (a.take i)) + 1) + 1) + 1) + ((a.getD i default).f3.length : Int)), (⟨(((((k + cntL SHead.ce (a.take i)) + 1) + 1) + 1) + ((a.getD i default).f3.length : Int)) + ((a.getD i default).f4.length : Int), ((((((k + cntL SHead.ce (a.take i)) + 1) + 1) + 1) + ((a.getD i default).f3.length : Int)) + ((a.getD i default).f4.length : Int)) + 1, mkB (a.getD i default).f5.f2 ((((((((k + cntL SHead.ce (a.take i)) + 1) + 1) + 1) + ((a.getD i default).f3.length : Int)) + ((a.getD i default).f4.length : Int)) + 1) + 1), mkB (a.getD i default).f5.f3 (((((((((k + cntL SHead.ce (a.take i)) + 1) + 1) + 1) + ((a.getD i default).f3.length : Int)) + ((a.getD i default).f4.length : Int)) + 1) + 1) + ((a.getD i default).f5.f2.length : Int)), (a.getD i default).f5.f4⟩ : SQc)⟩ : SHead)).map SHead.cells)))]) (x := (.int .i64 ((((((((((k + cntL SHead.ce (a.take i)) + 1) + 1) + 1) + ((a.getD i default).f3.length : Int)) + ((a.getD i default).f4.length : Int)) + 1) + 1) + ((a.getD i default).f5.f2.length : Int)) + ((a.getD i default).f5.f3.length : Int)))) (g := .func 23) rfl rfl (lt_ok rfl) rfl (by kernel_rfl) rfl rfl (.row (T := (Ts 0)) (d := (.sl 10 (((upTo SHead.ce SHead.me a k i).set i (⟨k + cntL SHead.ce (a.take i), (k + cntL SHead.ce (a.take i)) + 1, ((k + cntL SHead.ce (a.take i)) + 1) + 1, mkB (a.getD i default).f3 ((((k + cntL SHead.ce (a.take i)) + 1) + 1) + 1), mkB (a.getD i default).f4 (((((k + cntL SHead.ce (a.take i)) + 1) + 1) + 1) + ((a.getD i default).f3.length : Int)), (⟨(((((k + cntL SHead.ce (a.take i)) + 1) + 1) + 1) + ((a.getD i default).f3.length : Int)) + ((a.getD i default).f4.length : Int), ((((((k + cntL SHead.ce (a.take i)) + 1) + 1) + 1) + ((a.getD i default).f3.length : Int)) + ((a.getD i default).f4.length : Int)) + 1, mkB (a.getD i default).f5.f2 ((((((((k + cntL SHead.ce (a.take i)) + 1) + 1) + 1) + ((a.getD i default).f3.length : Int)) + ((a.getD i default).f4.length : Int)) + 1) + 1), (a.getD i default).f5.f3, (a.getD i default).f5.f4⟩ : SQc)⟩ : SHead)).map SHead.cells))) (e' := (.ints .u8 (mkB (a.getD i default).f5.f3 (((((((((k + cntL SHead.ce (a.take i)) + 1) + 1) + 1) + ((a.getD i default).f3.length : Int)) + ((a.getD i default).f4.length : Int)) + 1) + 1) + ((a.getD i default).f5.f2.length : Int))))) (d' := (.sl 10 (((upTo SHead.ce SHead.me a k i).set i (⟨k + cntL SHead.ce (a.take i), (k + cntL SHead.ce (a.take i)) + 1, ((k + cntL SHead.ce (a.take i)) + 1) + 1, mkB (a.getD i default).f3 ((((k + cntL SHead.ce (a.take i)) + 1) + 1) + 1), mkB (a.getD i default).f4 (((((k + cntL SHead.ce (a.take i)) + 1) + 1) + 1) + ((a.getD i default).f3.length : Int)), (⟨(((((k + cntL SHead.ce (a.take i)) + 1) + 1) + 1) + ((a.getD i default).f3.length : Int)) + ((a.getD i default).f4.length : Int), ((((((k + cntL SHead.ce (a.take i)) + 1) + 1) + 1) + ((a.getD i default).f3.length : Int)) + ((a.getD i default).f4.length : Int)) + 1, mkB (a.getD i default).f5.f2 ((((((((k + cntL SHead.ce (a.take i)) + 1) + 1) + 1) + ((a.getD i default).f3.length : Int)) + ((a.getD i default).f4.length : Int)) + 1) + 1), mkB (a.getD i default).f5.f3 (((((((((k + cntL SHead.ce (a.take i)) + 1) + 1) + 1) + ((a.getD i default).f3.length : Int)) + ((a.getD i default).f4.length : Int)) + 1) + 1) + ((a.getD i default).f5.f2.length : Int)), (a.getD i default).f5.f4⟩ : SQc)⟩ : SHead)).map SHead.cells))) rfl (cell_set_sl (z := 10) (by simp only [upTo_length]; first | omega | (simp; omega)) rfl) rfl (putAt_fld2 (by simp only [upTo_length]; first | omega | (simp; omega)) rfl) rfl (by simp [D.size]) rfl rfl (.d .nil)) (ok_laws_markByteS (a.getD i default).f5.f3 (((((((((k + cntL SHead.ce (a.take i)) + 1) + 1) + 1) + ((a.getD i default).f3.length : Int)) + ((a.getD i default).f4.length : Int)) + 1) + 1) + ((a.getD i default).f5.f2.length : Int)) (by omega) (by first | omega | (have := (by assumption); omega))) rfl) ?_
   refine TL.cons rfl (Step.assign (p := (.one (.d (.int .i64 ((((((((((k + cntL SHead.ce (a.take i)) + 1) + 1) + 1) + ((a.getD i default).f3.length : Int)) + ((a.getD i default).f4.length : Int)) + 1) + 1) + ((a.getD i default).f5.f2.length : Int)) + ((a.getD i default).f5.f3.length : Int)))))) rfl rfl (lt_ok rfl) rfl) ?_
   refine TL.nil ?_
   refine T.region ?_
   refine TL.cons rfl (Step.move (p := (.one (.row 900 []))) rfl rfl (lt_ok rfl) rfl) ?_
   refine TL.cons rfl (Step.move (p := (.one (.d (.int .i64 (i : Int))))) rfl rfl (lt_ok rfl) rfl) ?_
   refine TL.cons rfl (Step.index_row (d := (.sl 10 (((upTo SHead.ce SHead.me a k i).set i (⟨k + cntL SHead.ce (a.take i), (k + cntL SHead.ce (a.take i)) + 1, ((k + cntL SHead.ce (a.take i)) + 1) + 1, mkB (a.getD i default).f3 ((((k + cntL SHead.ce (a.take i)) + 1) + 1) + 1), mkB (a.getD i default).f4 (((((k + cntL SHead.ce (a.take i)) + 1) + 1) + 1) + ((a.getD i default).f3.length : Int)), (⟨(((((k + cntL SHead.ce (a.take i)) + 1) + 1) + 1) + ((a.getD i default).f3.length : Int)) + ((a.getD i default).f4.length : Int), ((((((k + cntL SHead.ce (a.take i)) + 1) + 1) + 1) + ((a.getD i default).f3.length : Int)) + ((a.getD i default).f4.length : Int)) + 1, mkB (a.getD i default).f5.f2 ((((((((k + cntL SHead.ce (a.take i)) + 1) + 1) + 1) + ((a.getD i default).f3.length : Int)) + ((a.getD i default).f4.length : Int)) + 1) + 1), mkB (a.getD i default).f5.f3 (((((((((k + cntL SHead.ce (a.take i)) + 1) + 1) + 1) + ((a.getD i default).f3.length : Int)) + ((a.getD i default).f4.length : Int)) + 1) + 1) + ((a.getD i default).f5.f2.length : Int)), (a.getD i default).f5.f4⟩ : SQc)⟩ : SHead)).map SHead.cells))) (e := 54) (z := 10) (i := (i : Int)) rfl rfl (lt_ok rfl) (by kernel_rfl) rfl rfl rfl rfl (lt_ok rfl) rfl (by first | omega | (simp; omega)) (by simp only [D.at_, D.cell, D.size, List.length_set, List.length_map, upTo_length]; first | omega | (simp; omega))) ?_
   refine TL.cons rfl (Step.fieldAddr_r (d := (.sl 10 (((upTo SHead.ce SHead.me a k i).set i (⟨k + cntL SHead.ce (a.take i), (k + cntL SHead.ce (a.take i)) + 1, ((k + cntL SHead.ce (a.take i)) + 1) + 1, mkB (a.getD i default).f3 ((((k + cntL SHead.ce (a.take i)) + 1) + 1) + 1), mkB (a.getD i default).f4 (((((k + cntL SHead.ce (a.take i)) + 1) + 1) + 1) + ((a.getD i default).f3.length : Int)), (⟨(((((k + cntL SHead.ce (a.take i)) + 1) + 1) + 1) + ((a.getD i default).f3.length : Int)) + ((a.getD i default).f4.length : Int), ((((((k + cntL SHead.ce (a.take i)) + 1) + 1) + 1) + ((a.getD i default).f3.length : Int)) + ((a.getD i default).f4.length : Int)) + 1, mkB (a.getD i default).f5.f2 ((((((((k + cntL SHead.ce (a.take i)) + 1) + 1) + 1) + ((a.getD i default).f3.length : Int)) + ((a.getD i default).f4.length : Int)) + 1) + 1), mkB (a.getD i default).f5.f3 (((((((((k + cntL SHead.ce (a.take i)) + 1) + 1) + 1) + ((a.getD i default).f3.length : Int)) + ((a.getD i default).f4.length : Int)) + 1) + 1) + ((a.getD i default).f5.f2.length : Int)), (a.getD i default).f5.f4⟩ : SQc)⟩ : SHead)).map SHead.cells))) (j := 0) (off := 5) (n := 5) (one := false) rfl rfl (lt_ok rfl) (by kernel_rfl) (Nat.succ_ne_zero _) rfl rfl (lt_ok rfl)) ?_
   refine TL.cons rfl (Step.fieldAddr_r (d := (.sl 10 (((upTo SHead.ce SHead.me a k i).set i (⟨k + cntL SHead.ce (a.take i), (k + cntL SHead.ce (a.take i)) + 1, ((k + cntL SHead.ce (a.take i)) + 1) + 1, mkB (a.getD i default).f3 ((((k + cntL SHead.ce (a.take i)) + 1) + 1) + 1), mkB (a.getD i default).f4 (((((k + cntL SHead.ce (a.take i)) + 1) + 1) + 1) + ((a.getD i default).f3.length : Int)), (⟨(((((k + cntL SHead.ce (a.take i)) + 1) + 1) + 1) + ((a.getD i default).f3.length : Int)) + ((a.getD i default).f4.length : Int), ((((((k + cntL SHead.ce (a.take i)) + 1) + 1) + 1) + ((a.getD i default).f3.length : Int)) + ((a.getD i default).f4.length : Int)) + 1, mkB (a.getD i default).f5.f2 ((((((((k + cntL SHead.ce (a.take i)) + 1) + 1) + 1) + ((a.getD i default).f3.length : Int)) + ((a.getD i default).f4.length : Int)) + 1) + 1), mkB (a.getD i default).f5.f3 (((((((((k + cntL SHead.ce (a.take i)) + 1) + 1) + 1) + ((a.getD i default).f3.length : Int)) + ((a.getD i default).f4.length : Int)) + 1) + 1) + ((a.getD i default).f5.f2.length : Int)), (a.getD i default).f5.f4⟩ : SQc)⟩ : SHead)).map SHead.cells))) (j := 5) (off := 4) (n := 1) (one := true) rfl rfl (lt_ok rfl) (by kernel_rfl) (Nat.succ_ne_zero _) rfl rfl (lt_ok rfl)) ?_
   refine TL.cons rfl (Step.load_row (d := (.sl 10 (((upTo SHead.ce SHead.me a k i).set i (⟨k + cntL SHead.ce (a.take i), (k + cntL SHead.ce (a.take i)) + 1, ((k + cntL SHead.ce (a.take i)) + 1) + 1, mkB (a.getD i default).f3 ((((k + cntL SHead.ce (a.take i)) + 1) + 1) + 1), mkB (a.getD i default).f4 (((((k + cntL SHead.ce (a.take i)) + 1) + 1) + 1) + ((a.getD i default).f3.length : Int)), (⟨(((((k + cntL SHead.ce (a.take i)) + 1) + 1) + 1) + ((a.getD i default).f3.length : Int)) + ((a.getD i default).f4.length : Int), ((((((k + cntL SHead.ce (a.take i)) + 1) + 1) + 1) + ((a.getD i default).f3.length : Int)) + ((a.getD i default).f4.length : Int)) + 1, mkB (a.getD i default).f5.f2 ((((((((k + cntL SHead.ce (a.take i)) + 1) + 1) + 1) + ((a.getD i default).f3.length : Int)) + ((a.getD i default).f4.length : Int)) + 1) + 1), mkB (a.getD i default).f5.f3 (((((((((k + cntL SHead.ce (a.take i)) + 1) + 1) + 1) + ((a.getD i default).f3.length : Int)) + ((a.getD i default).f4.length : Int)) + 1) + 1) + ((a.getD i default).f5.f2.length : Int)), (a.getD i default).f5.f4⟩ : SQc)⟩ : SHead)).map SHead.cells))) (c := .row 900 [(i, 9)]) rfl rfl (lt_ok rfl) (by kernel_rfl) rfl rfl (ofRow_sl (cell_set_sl (z := 10) (by simp only [upTo_length]; first | omega | (simp; omega)) rfl) rfl)) ?_
   refine TL.cons rfl (Step.move (p := (.one (.d (.int .i64 ((((((((((k + cntL SHead.ce (a.take i)) + 1) + 1) + 1) + ((a.getD i default).f3.length : Int)) + ((a.getD i default).f4.length : Int)) + 1) + 1) + ((a.getD i default).f5.f2.length : Int)) + ((a.getD i default).f5.f3.length : Int)))))) rfl rfl (lt_ok rfl) rfl) ?_
   have nn2 := cntBs_nonneg (a.getD i default).f5.f4
   refine TL.cons rfl (Step.callM (f := 63) (xs := [.tmp 84, .tmp 85]) (ps := [(.one (.row 900 [(i, 9)])), (.one (.d (.int .i64 ((((((((((k + cntL SHead.ce (a.take i)) + 1) + 1) + 1) + ((a.getD i default).f3.length : Int)) + ((a.getD i default).f4.length : Int)) + 1) + 1) + ((a.getD i default).f5.f2.length : Int)) + ((a.getD i default).f5.f3.length : Int)))))]) (args := [.one (.mk (.bss (a.getD i default).f5.f4) (.bss (mkBs (a.getD i default).f5.f4 ((((((((((k + cntL SHead.ce (a.take i)) + 1) + 1) + 1) + ((a.getD i default).f3.length : Int)) + ((a.getD i default).f4.length : Int)) + 1) + 1) + ((a.getD i default).f5.f2.length : Int)) + ((a.getD i default).f5.f3.length : Int))))), .one (.rd (.int .i64 ((((((((((k + cntL SHead.ce (a.take i)) + 1) + 1) + 1) + ((a.getD i default).f3.length : Int)) + ((a.getD i default).f4.length : Int)) + 1) + 1) + ((a.getD i default).f5.f2.length : Int)) + ((a.getD i default).f5.f3.length : Int))))]) (js := [(900, (.sl 10 (((upTo SHead.ce SHead.me a k i).set i (⟨k + cntL SHead.ce (a.take i), (k + cntL SHead.ce (a.take i)) + 1, ((k + cntL SHead.ce (a.take i)) + 1) + 1, mkB (a.getD i default).f3 ((((k + cntL SHead.ce (a.take i)) + 1) + 1) + 1), mkB (a.getD i default).f4 (((((k + cntL SHead.ce (a.take i)) + 1) + 1) + 1) + ((a.getD i default).f3.length : Int)), (⟨(((((k + cntL SHead.ce (a.take i)) + 1) + 1) + 1) + ((a.getD i default).f3.length : Int)) + ((a.getD i default).f4.length : Int), ((((((k + cntL SHead.ce (a.take i)) + 1) + 1) + 1) + ((a.getD i default).f3.length : Int)) + ((a.getD i default).f4.length : Int)) + 1, mkB (a.getD i default).f5.f2 ((((((((k + cntL SHead.ce (a.take i)) + 1) + 1) + 1) + ((a.getD i default).f3.length : Int)) + ((a.getD i default).f4.length : Int)) + 1) + 1), mkB (a.getD i default).f5.f3 (((((((((k + cntL SHead.ce (a.take i)) + 1) + 1) + 1) + ((a.getD i default).f3.length : Int)) + ((a.getD i default).f4.length : Int)) + 1) + 1) + ((a.getD i default).f5.f2.length : Int)), mkBs (a.getD i default).f5.f4 ((((((((((k + cntL SHead.ce (a.take i)) + 1) + 1) + 1) + ((a.getD i default).f3.length : Int)) + ((a.getD i default).f4.length : Int)) + 1) + 1) + ((a.getD i default).f5.f2.length : Int)) + ((a.getD i default).f5.f3.length : Int))⟩ : SQc)⟩ : SHead)).map SHead.cells)))]) (x := (.int .i64 (((((((((((k + cntL SHead.ce (a.take i)) + 1) + 1) + 1) + ((a.getD i default).f3.length : Int)) + ((a.getD i default).f4.length : Int)) + 1) + 1) + ((a.getD i default).f5.f2.length : Int)) + ((a.getD i default).f5.f3.length : Int)) + cntL (fun x : List Int => (x.length : Int)) (a.getD i default).f5.f4))) (g := .func 63) rfl rfl (lt_ok rfl) rfl (by kernel_rfl) rfl rfl (.row (T := (Ts 0)) (d := (.sl 10 (((upTo SHead.ce SHead.me a k i).set i (⟨k + cntL SHead.ce (a.take i), (k + cntL SHead.ce (a.take i)) + 1, ((k + cntL SHead.ce (a.take i)) + 1) + 1, mkB (a.getD i default).f3 ((((k + cntL SHead.ce (a.take i)) + 1) + 1) + 1), mkB (a.getD i default).f4 (((((k + cntL SHead.ce (a.take i)) + 1) + 1) + 1) + ((a.getD i default).f3.length : Int)), (⟨(((((k + cntL SHead.ce (a.take i)) + 1) + 1) + 1) + ((a.getD i default).f3.length : Int)) + ((a.getD i default).f4.length : Int), ((((((k + cntL SHead.ce (a.take i)) + 1) + 1) + 1) + ((a.getD i default).f3.length : Int)) + ((a.getD i default).f4.length : Int)) + 1, mkB (a.getD i default).f5.f2 ((((((((k + cntL SHead.ce (a.take i)) + 1) + 1) + 1) + ((a.getD i default).f3.length : Int)) + ((a.getD i default).f4.length : Int)) + 1) + 1), mkB (a.getD i default).f5.f3 (((((((((k + cntL SHead.ce (a.take i)) + 1) + 1) + 1) + ((a.getD i default).f3.length : Int)) + ((a.getD i default).f4.length : Int)) + 1) + 1) + ((a.getD i default).f5.f2.length : Int)), (a.getD i default).f5.f4⟩ : SQc)⟩ : SHead)).map SHead.cells))) (e' := (.bss (mkBs (a.getD i default).f5.f4 ((((((((((k + cntL SHead.ce (a.take i)) + 1) + 1) + 1) + ((a.getD i default).f3.length : Int)) + ((a.getD i default).f4.length : Int)) + 1) + 1) + ((a.getD i default).f5.f2.length : Int)) + ((a.getD i default).f5.f3.length : Int))))) (d' := (.sl 10 (((upTo SHead.ce SHead.me a k i).set i (⟨k + cntL SHead.ce (a.take i), (k + cntL SHead.ce (a.take i)) + 1, ((k + cntL SHead.ce (a.take i)) + 1) + 1, mkB (a.getD i default).f3 ((((k + cntL SHead.ce (a.take i)) + 1) + 1) + 1), mkB (a.getD i default).f4 (((((k + cntL SHead.ce (a.take i)) + 1) + 1) + 1) + ((a.getD i default).f3.length : Int)), (⟨(((((k + cntL SHead.ce (a.take i)) + 1) + 1) + 1) + ((a.getD i default).f3.length : Int)) + ((a.getD i default).f4.length : Int), ((((((k + cntL SHead.ce (a.take i)) + 1) + 1) + 1) + ((a.getD i default).f3.length : Int)) + ((a.getD i default).f4.length : Int)) + 1, mkB (a.getD i default).f5.f2 ((((((((k + cntL SHead.ce (a.take i)) + 1) + 1) + 1) + ((a.getD i default).f3.length : Int)) + ((a.getD i default).f4.length : Int)) + 1) + 1), mkB (a.getD i default).f5.f3 (((((((((k + cntL SHead.ce (a.take i)) + 1) + 1) + 1) + ((a.getD i default).f3.length : Int)) + ((a.getD i default).f4.length : Int)) + 1) + 1) + ((a.getD i default).f5.f2.length : Int)), mkBs (a.getD i default).f5.f4 ((((((((((k + cntL SHead.ce (a.take i)) + 1) + 1) + 1) + ((a.getD i default).f3.length : Int)) + ((a.getD i default).f4.length : Int)) + 1) + 1) + ((a.getD i default).f5.f2.length : Int)) + ((a.getD i default).f5.f3.length : Int))⟩ : SQc)⟩ : SHead)).map SHead.cells))) rfl (cell_set_sl (z := 10) (by simp only [upTo_length]; first | omega | (simp; omega)) rfl) rfl (putAt_fld2 (by simp only [upTo_length]; first | omega | (simp; omega)) rfl) rfl (by simp [D.size]) rfl rfl (.d .nil)) (ok_laws_markByteSS (a.getD i default).f5.f4 ((((((((((k + cntL SHead.ce (a.take i)) + 1) + 1) + 1) + ((a.getD i default).f3.length : Int)) + ((a.getD i default).f4.length : Int)) + 1) + 1) + ((a.getD i default).f5.f2.length : Int)) + ((a.getD i default).f5.f3.length : Int)) (by omega) (by first | omega | (have := cntBs_le (xs := (a.getD i default).f5.f4) (by assumption); omega))) rfl) ?_
   refine TL.cons rfl (Step.assign (p := (.one (.d (.int .i64 (((((((((((k + cntL SHead.ce (a.take i)) + 1) + 1) + 1) + ((a.getD i default).f3.length : Int)) + ((a.getD i default).f4.length : Int)) + 1) + 1) + ((a.getD i default).f5.f2.length : Int)) + ((a.getD i default).f5.f3.length : Int)) + cntL (fun x : List Int => (x.length : Int)) (a.getD i default).f5.f4))))) rfl rfl (lt_ok rfl) rfl) ?_
   refine TL.nil ?_
   refine T.region ?_
   refine TL.cons rfl (Step.move (p := (.one (.d (.int .i64 (i : Int))))) rfl rfl (lt_ok rfl) rfl) ?_
   refine TL.cons rfl (Step.bin (r := .int .i64 ((i : Int) + 1)) rfl rfl (lt_ok rfl) rfl rfl (Bin.add (a := (i : Int)) (b := 1) (by first | exact wrap_ok (by first | omega | (simp; omega)) (by first | omega | (simp; omega)) | rfl))) ?_
   refine TL.cons rfl (Step.assign (p := (.one (.d (.int .i64 ((i : Int) + 1))))) rfl rfl (lt_ok rfl) rfl) ?_
   refine TL.nil ?_
   exact ⟨i + 1, by omega, by first | omega | (dsimp only; omega), Env.le_mk ⟨rfl, rfl, by first | exact congrArg (fun x => some (Ts 0, D.sl 10 (List.map SHead.cells x))) (upTo_next (df := default) (by omega) rfl) | exact congrArg (fun x => some (Ts 0, D.sl 10 (List.map SHead.cells x))) (upTo_first a k default) | rfl | (refine congrArg (fun n => PV.one (.d (.int .i64 n))) ?_; first | omega | (simp; done) | (simp [cntL]; done)), by first | exact congrArg (fun x => some (Ts 0, D.sl 10 (List.map SHead.cells x))) (upTo_next (df := default) (by omega) rfl) | exact congrArg (fun x => some (Ts 0, D.sl 10 (List.map SHead.cells x))) (upTo_first a k default) | rfl | (refine congrArg (fun n => PV.one (.d (.int .i64 n))) ?_; first | omega | (simp; done) | (simp [cntL]; done)), trivial⟩ ⟨by first | exact congrArg (fun x => some (Ts 0, D.sl 10 (List.map SHead.cells x))) (upTo_next (df := default) (by omega) rfl) | exact congrArg (fun x => some (Ts 0, D.sl 10 (List.map SHead.cells x))) (upTo_first a k default) | rfl | (refine congrArg (fun n => PV.one (.d (.int .i64 n))) ?_; first | omega | (simp; done) | (simp [cntL]; done)), trivial⟩ trivial⟩
  ·
   replace h1 := of_decide_eq_false h1
   refine T.exit ?_
   refine T.seq ?_
   refine T.region ?_
   refine TL.cons rfl (Step.move (p := (.one (.d (.int .i64 (k + cntL SHead.ce (a.take i)))))) rfl rfl (lt_ok rfl) rfl) ?_
   refine TL.cons rfl (Step.assign (p := (.one (.d (.int .i64 (k + cntL SHead.ce (a.take i)))))) rfl rfl (lt_ok rfl) rfl) ?_
   refine TL.nil ?_
   refine T.ret ?_
   exact ⟨⟨⟨[(false, [.d (.int .i64 (k + cntL SHead.ce (a.take i)))])], (.cons rfl .nil), rfl, [], (RetC.rd' (by (congr 1; rw [cntL_all (by omega)])) .nil)⟩, rfl⟩, (.mk' (by exact congrArg (fun x => some (Ts 0, D.sl 10 (List.map SHead.cells x))) (upTo_end (by omega))) (.rd .nil'))⟩
theorem ok_laws_markProof (a : SProof) (k : Int) (h0_ : 0 ≤ k) (h1_ : k + a.cm ≤ 4611686018427387904) : MK Try.prog 24 [.agg [.mk (.sl 10 (a.f0.map SHead.cells)) (.sl 10 ((mkL SHead.ce SHead.me a.f0 k).map SHead.cells)), .rd (.int .i64 a.f1.f0), .rd (.int .i64 a.f1.f1), .mk (.ints .u8 a.f1.f2) (.ints .u8 (mkB a.f1.f2 (k + cntL SHead.ce a.f0))), .mk (.ints .u8 a.f1.f3) (.ints .u8 (mkB a.f1.f3 ((k + cntL SHead.ce a.f0) + (a.f1.f2.length : Int)))), .mk (.bss a.f1.f4) (.bss (mkBs a.f1.f4 (((k + cntL SHead.ce a.f0) + (a.f1.f2.length : Int)) + (a.f1.f3.length : Int))))], .one (.rd (.int .i64 k))] [(false, [.rd (.int .i64 (k + a.cm))])] := by
 refine MK.intro Try.func24 rfl 14 rfl (le_ok rfl) (le_ok rfl) rfl fun w Z IX pin Ts hp => ?_
 have n0 := cntL_nonneg SHead.ce_nn a.f0
 have n1 := SQc.cm_nn a.f1
 simp only [SProof.cm] at h1_
 refine T.seq ?_
 refine T.region ?_
 refine TL.cons rfl (Step.box (p := (.agg [.row 900 [], .d (.int .i64 a.f1.f0), .d (.int .i64 a.f1.f1), .row 903 [], .row 904 [], .row 905 []])) (ps := [.row 900 [], .d (.int .i64 a.f1.f0), .d (.int .i64 a.f1.f1), .row 903 [], .row 904 [], .row 905 []]) rfl rfl (lt_ok rfl) rfl rfl rfl rfl rfl) ?_
 refine TL.cons rfl (Step.assign (p := (.one (.d (.int .i64 0)))) rfl rfl (lt_ok rfl) rfl) ?_
 refine TL.nil ?_
 refine T.seq ?_
 refine T.region ?_
 refine TL.cons rfl (Step.fieldAddr (q := 0) (off := 0) (n := 1) (one := true) rfl rfl (lt_ok rfl) (by kernel_rfl) (Nat.succ_ne_zero _) rfl) ?_
 refine TL.cons rfl (Step.load_box (c := .row 900 []) rfl rfl (lt_ok rfl) (by kernel_rfl) rfl rfl rfl) ?_
 refine TL.cons rfl (Step.move (p := (.one (.d (.int .i64 k)))) rfl rfl (lt_ok rfl) rfl) ?_
 have nn1 := cntL_nonneg SHead.ce_nn a.f0
 refine TL.cons rfl (Step.callM (f := 81) (xs := [.tmp 6, .tmp 7]) (ps := [(.one (.row 900 [])), (.one (.d (.int .i64 k)))]) (args := [.one (.mk (.sl 10 (a.f0.map SHead.cells)) (.sl 10 ((mkL SHead.ce SHead.me a.f0 k).map SHead.cells))), .one (.rd (.int .i64 k))]) (js := [(900, (.sl 10 ((mkL SHead.ce SHead.me a.f0 k).map SHead.cells)))]) (x := (.int .i64 (k + cntL SHead.ce a.f0))) (g := .func 81) rfl rfl (lt_ok rfl) rfl (by kernel_rfl) rfl rfl (.row (T := (Ts 0)) (d := (.sl 10 (a.f0.map SHead.cells))) (e' := (.sl 10 ((mkL SHead.ce SHead.me a.f0 k).map SHead.cells))) (d' := (.sl 10 ((mkL SHead.ce SHead.me a.f0 k).map SHead.cells))) rfl rfl rfl rfl rfl (by simp [D.size, mkL_length]) rfl rfl (.d .nil)) (ok_laws_markHeadS a.f0 k (by omega) (by first | omega | (have := SHead.cL_le (xs := a.f0) (by assumption); omega))) rfl) ?_
 refine TL.cons rfl (Step.assign (p := (.one (.d (.int .i64 (k + cntL SHead.ce a.f0))))) rfl rfl (lt_ok rfl) rfl) ?_
 refine TL.nil ?_
 refine T.seq ?_
 refine T.region ?_
 refine TL.cons rfl (Step.fieldAddr (q := 0) (off := 1) (n := 5) (one := false) rfl rfl (lt_ok rfl) (by kernel_rfl) (Nat.succ_ne_zero _) rfl) ?_
 refine TL.cons rfl (Step.load_box_agg (n := 5) (qs := [.d (.int .i64 a.f1.f0), .d (.int .i64 a.f1.f1), .row 903 [], .row 904 [], .row 905 []]) rfl rfl (lt_ok rfl) (by kernel_rfl) rfl rfl rfl rfl) ?_
 refine TL.cons rfl (Step.move (p := (.one (.d (.int .i64 (k + cntL SHead.ce a.f0))))) rfl rfl (lt_ok rfl) rfl) ?_
 have nn2 := SQc.cm_nn a.f1
 refine TL.cons rfl (Step.callM (f := 35) (xs := [.tmp 10, .tmp 11]) (ps := [(.agg [.d (.int .i64 a.f1.f0), .d (.int .i64 a.f1.f1), .row 903 [], .row 904 [], .row 905 []]), (.one (.d (.int .i64 (k + cntL SHead.ce a.f0))))]) (args := [.agg [.rd (.int .i64 a.f1.f0), .rd (.int .i64 a.f1.f1), .mk (.ints .u8 a.f1.f2) (.ints .u8 (mkB a.f1.f2 (k + cntL SHead.ce a.f0))), .mk (.ints .u8 a.f1.f3) (.ints .u8 (mkB a.f1.f3 ((k + cntL SHead.ce a.f0) + (a.f1.f2.length : Int)))), .mk (.bss a.f1.f4) (.bss (mkBs a.f1.f4 (((k + cntL SHead.ce a.f0) + (a.f1.f2.length : Int)) + (a.f1.f3.length : Int))))], .one (.rd (.int .i64 (k + cntL SHead.ce a.f0)))]) (js := [(903, (.ints .u8 (mkB a.f1.f2 (k + cntL SHead.ce a.f0)))), (904, (.ints .u8 (mkB a.f1.f3 ((k + cntL SHead.ce a.f0) + (a.f1.f2.length : Int))))), (905, (.bss (mkBs a.f1.f4 (((k + cntL SHead.ce a.f0) + (a.f1.f2.length : Int)) + (a.f1.f3.length : Int)))))]) (x := (.int .i64 ((k + cntL SHead.ce a.f0) + a.f1.cm))) (g := .func 35) rfl rfl (lt_ok rfl) rfl (by kernel_rfl) rfl rfl (.d (.d (.row (T := (Ts 3)) (d := (.ints .u8 a.f1.f2)) (e' := (.ints .u8 (mkB a.f1.f2 (k + cntL SHead.ce a.f0)))) (d' := (.ints .u8 (mkB a.f1.f2 (k + cntL SHead.ce a.f0)))) rfl rfl rfl rfl rfl (by simp [D.size, mkL_length]) rfl rfl (.row (T := (Ts 4)) (d := (.ints .u8 a.f1.f3)) (e' := (.ints .u8 (mkB a.f1.f3 ((k + cntL SHead.ce a.f0) + (a.f1.f2.length : Int))))) (d' := (.ints .u8 (mkB a.f1.f3 ((k + cntL SHead.ce a.f0) + (a.f1.f2.length : Int))))) rfl rfl rfl rfl rfl (by simp [D.size, mkL_length]) rfl rfl (.row (T := (Ts 5)) (d := (.bss a.f1.f4)) (e' := (.bss (mkBs a.f1.f4 (((k + cntL SHead.ce a.f0) + (a.f1.f2.length : Int)) + (a.f1.f3.length : Int))))) (d' := (.bss (mkBs a.f1.f4 (((k + cntL SHead.ce a.f0) + (a.f1.f2.length : Int)) + (a.f1.f3.length : Int))))) rfl rfl rfl rfl rfl (by simp [D.size, mkL_length]) rfl rfl (.d .nil)))))) (ok_laws_markQc a.f1 (k + cntL SHead.ce a.f0) (by omega) (by first | omega | (have := SQc.cm_le (x := a.f1) (by assumption); omega))) rfl) ?_
 refine TL.cons rfl (Step.assign (p := (.one (.d (.int .i64 ((k + cntL SHead.ce a.f0) + a.f1.cm))))) rfl rfl (lt_ok rfl) rfl) ?_
 refine TL.nil ?_
 refine T.seq ?_
 refine T.region ?_
 refine TL.cons rfl (Step.move (p := (.one (.d (.int .i64 ((k + cntL SHead.ce a.f0) + a.f1.cm))))) rfl rfl (lt_ok rfl) rfl) ?_
 refine TL.cons rfl (Step.assign (p := (.one (.d (.int .i64 ((k + cntL SHead.ce a.f0) + a.f1.cm))))) rfl rfl (lt_ok rfl) rfl) ?_
 refine TL.nil ?_
 refine T.ret ?_
 exact ⟨⟨⟨[(false, [.d (.int .i64 ((k + cntL SHead.ce a.f0) + a.f1.cm))])], (.cons rfl .nil), rfl, [], (RetC.rd' (by first | rfl | (congr 1; simp only [SProof.cm]; omega)) .nil)⟩, rfl⟩, (.mk' (by rfl) (.rd (.rd (.mk' (by rfl) (.mk' (by rfl) (.mk' (by rfl) (.rd .nil')))))))⟩
theorem ok_laws_heldByteS (a : List Int) (b : List Int) (k : Int) (h0_ : 0 ≤ k) (h1_ : k + (a.length : Int) ≤ 4611686018427387904) (h2_ : b = mkB a k) : RO Try.prog 25 [.one (.ints .u8 b), .one (.int .i64 k)] [(false, [.rd (.int .i64 (k + (a.length : Int)))])] := by
 refine RO.intro Try.func25 rfl 22 rfl (le_ok rfl) fun w Z => ?_
 refine T.bnd 0 0 rfl rfl fun hb_0_0 => ?_
 simp only [D.size, List.length_map] at hb_0_0
 have hl_ : b.length = a.length := by rw [h2_, mkL_length]
 have hg_ : ∀ i, i < a.length → b.getD i 0 = (k + (i : Int)) % 256 := fun i hi => by rw [h2_, mkL_getD _ _ _ _ hi]; simp only [cntL_one_take a i (by omega)]
 refine T.seq ?_
 refine T.region ?_
 refine TL.cons rfl (Step.assign (p := (.one (.d (.int .i64 0)))) rfl rfl (lt_ok rfl) rfl) ?_
 refine TL.nil ?_
 refine T.seq ?_
 refine T.seq ?_
 refine T.region ?_
 refine TL.cons rfl (Step.assign (p := (.one (.d (.int .i64 0)))) rfl rfl (lt_ok rfl) rfl) ?_
 refine TL.nil ?_
 refine T.block ?_
 refine T.loop (ι := Nat) (fun xx_ => { tm := [(0, (.one (.d (.ints .u8 b)))), (5, (.one (.d (.int .i64 (xx_ : Int))))), (1, (.one (.d (.int .i64 (k + (xx_ : Int))))))], rows := [], boxes := [] }) (fun xx_ => xx_ ≤ a.length) (fun xx_ => a.length - xx_) 0 ?_ ?_ ?_
 · exact Env.le_mk ⟨rfl, by first | rfl | (refine congrArg (fun n => PV.one (.d (.int .i64 n))) ?_; first | omega | (simp; done) | (simp [cntL]; done)), by first | rfl | (refine congrArg (fun n => PV.one (.d (.int .i64 n))) ?_; first | omega | (simp; done) | (simp [cntL]; done)), trivial⟩ trivial trivial
 · exact Nat.zero_le _
 ·
  intro i hx
  try dsimp only at hx ⊢
  refine T.seq ?_
  refine T.seq ?_
  refine T.region ?_
  refine TL.cons rfl (Step.move (p := (.one (.d (.int .i64 (i : Int))))) rfl rfl (lt_ok rfl) rfl) ?_
  refine TL.cons rfl (Step.move (p := (.one (.d (.ints .u8 b)))) rfl rfl (lt_ok rfl) rfl) ?_
  refine TL.cons rfl (Step.len (e := 5) (z := 1) (d := (.ints .u8 b)) rfl rfl (lt_ok rfl) (by kernel_rfl) rfl rfl) ?_
  refine TL.cons rfl (Step.bin rfl rfl (lt_ok rfl) rfl rfl (Bin.lss (k := .i64) (a := (i : Int)) (b := (b.length : Int)))) ?_
  refine TL.nil ?_
  refine T.cond (b := decide ((i : Int) < (b.length : Int))) rfl (fun h1 => ?_) (fun h1 => ?_)
  ·
   replace h1 := of_decide_eq_true h1
   refine T.skip ?_
   refine T.seq ?_
   refine T.block ?_
   refine T.seq ?_
   refine T.seq ?_
   refine T.region ?_
   refine TL.cons rfl (Step.move (p := (.one (.d (.ints .u8 b)))) rfl rfl (lt_ok rfl) rfl) ?_
   refine TL.cons rfl (Step.move (p := (.one (.d (.int .i64 (i : Int))))) rfl rfl (lt_ok rfl) rfl) ?_
   refine TL.cons rfl (Step.index (e := 5) (z := 1) (i := (i : Int)) rfl rfl (lt_ok rfl) (by kernel_rfl) rfl rfl rfl (lt_ok rfl) rfl (by first | omega | (simp; omega)) (by simp only [D.size]; first | omega | (simp; omega))) ?_
   refine TL.cons rfl (Step.load (e := (.int .u8 (b.getD i 0))) rfl rfl (lt_ok rfl) (by kernel_rfl) rfl rfl) ?_
   refine TL.cons rfl (Step.move (p := (.one (.d (.int .i64 (k + (i : Int)))))) rfl rfl (lt_ok rfl) rfl) ?_
   refine TL.cons rfl (Step.conv (c := ((k + (i : Int)) % 256)) rfl rfl (lt_ok rfl) (by kernel_rfl) (by kernel_rfl) rfl (wrap_byte _)) ?_
   refine TL.cons rfl (Step.bin rfl rfl (lt_ok rfl) rfl rfl (Bin.neq (k := .u8) (a := (b.getD i 0)) (b := ((k + (i : Int)) % 256)))) ?_
   refine TL.nil ?_
   refine T.cond (b := decide ((b.getD i 0) ≠ ((k + (i : Int)) % 256))) rfl (fun h2 => ?_) (fun h2 => ?_)
   ·
    replace h2 := of_decide_eq_true h2
    refine T.seq ?_
    refine T.region ?_
    refine TL.cons rfl (Step.assign (p := (.one (.d (.int .i64 (-1))))) rfl rfl (lt_ok rfl) rfl) ?_
    refine TL.nil ?_
    refine T.ret ?_
    exact ⟨[(false, [.d (.int .i64 (-1))])], (.cons rfl .nil), rfl, [], (RetC.rd' (by first | (congr 1; omega) | (exfalso; have := hg_ i (by omega); omega)) .nil)⟩
   ·
    replace h2 := of_decide_eq_false h2
    refine T.skip ?_
    refine T.region ?_
    refine TL.cons rfl (Step.move (p := (.one (.d (.int .i64 (k + (i : Int)))))) rfl rfl (lt_ok rfl) rfl) ?_
    refine TL.cons rfl (Step.bin (r := .int .i64 ((k + (i : Int)) + 1)) rfl rfl (lt_ok rfl) rfl rfl (Bin.add (a := (k + (i : Int))) (b := 1) (by first | exact wrap_ok (by first | omega | (simp; omega)) (by first | omega | (simp; omega)) | rfl))) ?_
    refine TL.cons rfl (Step.assign (p := (.one (.d (.int .i64 ((k + (i : Int)) + 1))))) rfl rfl (lt_ok rfl) rfl) ?_
    refine TL.nil ?_
    refine T.region ?_
    refine TL.cons rfl (Step.move (p := (.one (.d (.int .i64 (i : Int))))) rfl rfl (lt_ok rfl) rfl) ?_
    refine TL.cons rfl (Step.bin (r := .int .i64 ((i : Int) + 1)) rfl rfl (lt_ok rfl) rfl rfl (Bin.add (a := (i : Int)) (b := 1) (by first | exact wrap_ok (by first | omega | (simp; omega)) (by first | omega | (simp; omega)) | rfl))) ?_
    refine TL.cons rfl (Step.assign (p := (.one (.d (.int .i64 ((i : Int) + 1))))) rfl rfl (lt_ok rfl) rfl) ?_
    refine TL.nil ?_
    exact ⟨i + 1, by omega, by first | omega | (dsimp only; omega), Env.le_mk ⟨rfl, by first | rfl | (refine congrArg (fun n => PV.one (.d (.int .i64 n))) ?_; first | omega | (simp; done) | (simp [cntL]; done)), by first | rfl | (refine congrArg (fun n => PV.one (.d (.int .i64 n))) ?_; first | omega | (simp; done) | (simp [cntL]; done)), trivial⟩ trivial trivial⟩
  ·
   replace h1 := of_decide_eq_false h1
   refine T.exit ?_
   refine T.seq ?_
   refine T.region ?_
   refine TL.cons rfl (Step.move (p := (.one (.d (.int .i64 (k + (i : Int)))))) rfl rfl (lt_ok rfl) rfl) ?_
   refine TL.cons rfl (Step.assign (p := (.one (.d (.int .i64 (k + (i : Int)))))) rfl rfl (lt_ok rfl) rfl) ?_
   refine TL.nil ?_
   refine T.ret ?_
   exact ⟨[(false, [.d (.int .i64 (k + (i : Int)))])], (.cons rfl .nil), rfl, [], (RetC.rd' (by first | (congr 1; omega) | (exfalso; have := hg_ i (by omega); omega)) .nil)⟩
theorem ok_laws_FnExactPutProof (aL : SLimits) (aB : List Int) (aP : SProof) (h0_ : aL.ok) (h1_ : U8s aB) (h2_ : aP.ok) : RO Try.prog 3 [.agg aL.cells, .one (.ints .u8 aB), .agg aP.cells] [(false, [.rd (.bool true)])] := by
 refine RO.intro Try.func3 rfl 125 rfl (le_ok rfl) fun w Z => ?_
 refine T.bnd 1 0 rfl rfl fun hb_1_0 => ?_
 simp only [D.size, List.length_map] at hb_1_0
 refine T.seq ?_
 refine T.region ?_
 refine TL.cons rfl (Step.box (p := (.agg [.d (.int .i64 aL.f0), .d (.int .i64 aL.f1), .d (.int .i64 aL.f2), .d (.int .i64 aL.f3), .d (.int .i64 aL.f4)])) (ps := [.d (.int .i64 aL.f0), .d (.int .i64 aL.f1), .d (.int .i64 aL.f2), .d (.int .i64 aL.f3), .d (.int .i64 aL.f4)]) rfl rfl (lt_ok rfl) rfl rfl rfl rfl rfl) ?_
 refine TL.cons rfl (Step.box (p := (.agg [.d (.sl 10 (aP.f0.map SHead.cells)), .d (.int .i64 aP.f1.f0), .d (.int .i64 aP.f1.f1), .d (.ints .u8 aP.f1.f2), .d (.ints .u8 aP.f1.f3), .d (.bss aP.f1.f4)])) (ps := [.d (.sl 10 (aP.f0.map SHead.cells)), .d (.int .i64 aP.f1.f0), .d (.int .i64 aP.f1.f1), .d (.ints .u8 aP.f1.f2), .d (.ints .u8 aP.f1.f3), .d (.bss aP.f1.f4)]) rfl rfl (lt_ok rfl) rfl rfl rfl rfl rfl) ?_
 refine TL.cons rfl (Step.assign (p := (.one (.d (.bool false)))) rfl rfl (lt_ok rfl) rfl) ?_
 refine TL.nil ?_
 refine T.seq ?_
 refine T.seq ?_
 refine T.region ?_
 refine TL.cons rfl (Step.move (p := (.one (.d (.ints .u8 aB)))) rfl rfl (lt_ok rfl) rfl) ?_
 refine TL.cons rfl (Step.len (e := 5) (z := 1) (d := (.ints .u8 aB)) rfl rfl (lt_ok rfl) (by kernel_rfl) rfl rfl) ?_
 refine TL.cons rfl (Step.bin rfl rfl (lt_ok rfl) rfl rfl (Bin.gtr (k := .i64) (a := (aB.length : Int)) (b := 1048576))) ?_
 refine TL.nil ?_
 refine T.cond (b := decide (1048576 < (aB.length : Int))) rfl (fun h1 => ?_) (fun h1 => ?_)
 ·
  replace h1 := of_decide_eq_true h1
  refine T.seq ?_
  refine T.region ?_
  refine TL.cons rfl (Step.assign (p := (.one (.d (.bool true)))) rfl rfl (lt_ok rfl) rfl) ?_
  refine TL.nil ?_
  refine T.ret ?_
  exact ⟨[(false, [.d (.bool true)])], (.cons rfl .nil), rfl, [], (RetC.rd' (by rfl) .nil)⟩
 ·
  replace h1 := of_decide_eq_false h1
  refine T.skip ?_
  refine T.seq ?_
  refine T.region ?_
  refine TL.cons rfl (Step.assign (p := (.one (.d (.int .i64 1048576)))) rfl rfl (lt_ok rfl) rfl) ?_
  refine TL.nil ?_
  refine T.seq ?_
  refine T.region ?_
  refine TL.cons rfl (Step.load_box_agg (n := 6) (qs := [.d (.sl 10 (aP.f0.map SHead.cells)), .d (.int .i64 aP.f1.f0), .d (.int .i64 aP.f1.f1), .d (.ints .u8 aP.f1.f2), .d (.ints .u8 aP.f1.f3), .d (.bss aP.f1.f4)]) rfl rfl (lt_ok rfl) (by kernel_rfl) rfl rfl rfl rfl) ?_
  refine TL.cons rfl (Step.move (p := (.one (.d (.int .i64 1048576)))) rfl rfl (lt_ok rfl) rfl) ?_
  refine TL.cons rfl (Step.call (f := 15) (xs := [.tmp 22, .tmp 23]) (ps := [(.agg [.d (.sl 10 (aP.f0.map SHead.cells)), .d (.int .i64 aP.f1.f0), .d (.int .i64 aP.f1.f1), .d (.ints .u8 aP.f1.f2), .d (.ints .u8 aP.f1.f3), .d (.bss aP.f1.f4)]), (.one (.d (.int .i64 1048576)))]) false (g := .func 15) rfl rfl (lt_ok rfl) rfl (by kernel_rfl) rfl (.cons (.agg (.cons (.d _) (.cons (.d _) (.cons (.d _) (.cons (.d _) (.cons (.d _) (.cons (.d _) .nil))))))) (.cons (.one (.d _)) .nil)) (ok_laws_szProof aP 1048576 (by omega) (by omega)) (.inr rfl) rfl (by simp) rfl) ?_
  refine TL.cons rfl (Step.assign (p := (.one (.d (.int .i64 (aP.sz 1048576))))) rfl rfl (lt_ok rfl) rfl) ?_
  refine TL.nil ?_
  refine T.seq ?_
  refine T.seq ?_
  refine T.region ?_
  refine TL.cons rfl (Step.move (p := (.one (.d (.int .i64 (aP.sz 1048576))))) rfl rfl (lt_ok rfl) rfl) ?_
  refine TL.cons rfl (Step.bin rfl rfl (lt_ok rfl) rfl rfl (Bin.lss (k := .i64) (a := (aP.sz 1048576)) (b := 0))) ?_
  refine TL.nil ?_
  refine T.cond (b := decide ((aP.sz 1048576) < 0)) rfl (fun h3 => ?_) (fun h3 => ?_)
  ·
   replace h3 := of_decide_eq_true h3
   refine T.seq ?_
   refine T.region ?_
   refine TL.cons rfl (Step.assign (p := (.one (.d (.bool true)))) rfl rfl (lt_ok rfl) rfl) ?_
   refine TL.nil ?_
   refine T.ret ?_
   exact ⟨[(false, [.d (.bool true)])], (.cons rfl .nil), rfl, [], (RetC.rd' (by rfl) .nil)⟩
  ·
   replace h3 := of_decide_eq_false h3
   have z2_le : aP.sz 1048576 ≤ 1048576 := SProof.sz_le _ (by omega)
   have z2_sm := SProof.sz_sm _ (by omega : (0 : Int) ≤ 1048576) (by omega : (1048576 : Int) ≤ 1048576) (by omega : (0 : Int) ≤ aP.sz 1048576)
   refine T.skip ?_
   refine T.seq ?_
   have nn4 := @putProof_len aL aB aP (by assumption)
   refine T.draw [⟨28, (.agg [.d (.int .i64 aL.f0), .d (.int .i64 aL.f1), .d (.int .i64 aL.f2), .d (.int .i64 aL.f3), .d (.int .i64 aL.f4)]), []⟩, ⟨29, (.agg [.d (.int .i64 aL.f0), .d (.int .i64 aL.f1), .d (.int .i64 aL.f2), .d (.int .i64 aL.f3), .d (.int .i64 aL.f4)]), []⟩, ⟨30, (.one (.d (.ints .u8 aB))), []⟩, ⟨31, (.one (.row 1031 [])), [(1031, (5, (.ints .u8 aB)))]⟩, ⟨32, (.agg [.d (.sl 10 (aP.f0.map SHead.cells)), .d (.int .i64 aP.f1.f0), .d (.int .i64 aP.f1.f1), .d (.ints .u8 aP.f1.f2), .d (.ints .u8 aP.f1.f3), .d (.bss aP.f1.f4)]), []⟩, ⟨33, (.agg [.row 1033 [], .d (.int .i64 aP.f1.f0), .d (.int .i64 aP.f1.f1), .row 4033 [], .row 5033 [], .row 6033 []]), [(6033, (24, (.bss aP.f1.f4))), (5033, (5, (.ints .u8 aP.f1.f3))), (4033, (5, (.ints .u8 aP.f1.f2))), (1033, (54, (.sl 10 (aP.f0.map SHead.cells))))]⟩, ⟨34, (.tup [(false, [.row 1034 []]), (false, [.d (.bool (proofOk aL aP))])]), [(1034, (5, (.ints .u8 (putProof aL aB aP))))]⟩, ⟨27, (.tup [(false, [.row 1034 []]), (false, [.d (.bool (proofOk aL aP))])]), []⟩, ⟨35, (.one (.row 1034 [])), []⟩, ⟨36, (.one (.d (.bool (proofOk aL aP)))), []⟩, ⟨8, (.one (.row 1034 [])), []⟩, ⟨9, (.one (.d (.bool (proofOk aL aP)))), []⟩] (by kernel_rfl) (by kernel_rfl) ?_ ?_
   ·
    refine .cons (fun E hA_ => by have g3 := hA_.get 3 (by decide); exact OpStep.plain rfl (Step.load_box_agg (n := 5) (qs := [.d (.int .i64 aL.f0), .d (.int .i64 aL.f1), .d (.int .i64 aL.f2), .d (.int .i64 aL.f3), .d (.int .i64 aL.f4)]) (t := 28) rfl rfl (by exact lt_ok rfl) (by kernel_rfl) (show Env.ev E (.tmp 3) = _ from g3.trans rfl) (by exact hA_.box rfl) rfl rfl)) ?_
    refine .cons (fun E hA_ => by have g28 := hA_.get 28 (by decide); exact OpStep.plain rfl (Step.call (f := 17) (xs := [.tmp 28]) (ps := [(.agg [.d (.int .i64 aL.f0), .d (.int .i64 aL.f1), .d (.int .i64 aL.f2), .d (.int .i64 aL.f3), .d (.int .i64 aL.f4)])]) false (g := .func 17) (t := 29) rfl rfl (by exact lt_ok rfl) rfl (by kernel_rfl) (evs_cons (show Env.ev E (.tmp 28) = _ from g28.trans rfl) (rfl)) (.cons (.agg (.cons (.d _) (.cons (.d _) (.cons (.d _) (.cons (.d _) (.cons (.d _) .nil)))))) .nil) (ok_laws_toLimits aL) (.inr rfl) (At.freshRows hA_ rfl) (by simp) rfl)) ?_
    refine .cons (fun E hA_ => by have g1 := hA_.get 1 (by decide); exact OpStep.plain rfl (Step.move (p := (.one (.d (.ints .u8 aB)))) (t := 30) rfl rfl (by exact lt_ok rfl) (show Env.ev E (.tmp 1) = _ from g1.trans rfl))) ?_
    refine .cons (fun E hA_ => by have g30 := hA_.get 30 (by decide); exact OpStep.plain rfl (Step.call (f := 18) (xs := [.tmp 30]) (ps := [(.one (.d (.ints .u8 aB)))]) false (g := .func 18) (t := 31) rfl rfl (by exact lt_ok rfl) rfl (by kernel_rfl) (evs_cons (show Env.ev E (.tmp 30) = _ from g30.trans rfl) (rfl)) (.cons (.one (.d _)) .nil) (ok_laws_toByteS aB (by first | omega | assumption | exact mem_getD h0_.2 (by omega))) (.inr rfl) (At.freshRows hA_ rfl) (by simp) rfl)) ?_
    refine .cons (fun E hA_ => by have g5 := hA_.get 5 (by decide); exact OpStep.plain rfl (Step.load_box_agg (n := 6) (qs := [.d (.sl 10 (aP.f0.map SHead.cells)), .d (.int .i64 aP.f1.f0), .d (.int .i64 aP.f1.f1), .d (.ints .u8 aP.f1.f2), .d (.ints .u8 aP.f1.f3), .d (.bss aP.f1.f4)]) (t := 32) rfl rfl (by exact lt_ok rfl) (by kernel_rfl) (show Env.ev E (.tmp 5) = _ from g5.trans rfl) (by exact hA_.box rfl) rfl rfl)) ?_
    refine .cons (fun E hA_ => by have g32 := hA_.get 32 (by decide); exact OpStep.plain rfl (Step.call (f := 19) (xs := [.tmp 32]) (ps := [(.agg [.d (.sl 10 (aP.f0.map SHead.cells)), .d (.int .i64 aP.f1.f0), .d (.int .i64 aP.f1.f1), .d (.ints .u8 aP.f1.f2), .d (.ints .u8 aP.f1.f3), .d (.bss aP.f1.f4)])]) false (g := .func 19) (t := 33) rfl rfl (by exact lt_ok rfl) rfl (by kernel_rfl) (evs_cons (show Env.ev E (.tmp 32) = _ from g32.trans rfl) (rfl)) (.cons (.agg (.cons (.d _) (.cons (.d _) (.cons (.d _) (.cons (.d _) (.cons (.d _) (.cons (.d _) .nil))))))) .nil) (ok_laws_toProof aP (by first | assumption | exact ⟨‹_›, ‹_›⟩ | (refine mem_getD (p := SProof.sm) h0_.2 (by omega)) | exact mem_getD h0_.2 (by omega))) (.inr rfl) (At.freshRows hA_ rfl) (by simp) rfl)) ?_
    refine .cons (fun E hA_ => by have g29 := hA_.get 29 (by decide); have g31 := hA_.get 31 (by decide); have g33 := hA_.get 33 (by decide); exact OpStep.plain rfl (Step.call (f := 16) (xs := [.tmp 29, .tmp 31, .tmp 33]) (ps := [(.agg [.d (.int .i64 aL.f0), .d (.int .i64 aL.f1), .d (.int .i64 aL.f2), .d (.int .i64 aL.f3), .d (.int .i64 aL.f4)]), (.one (.row 1031 [])), (.agg [.row 1033 [], .d (.int .i64 aP.f1.f0), .d (.int .i64 aP.f1.f1), .row 4033 [], .row 5033 [], .row 6033 []])]) false (g := .func 16) (t := 34) rfl rfl (by exact lt_ok rfl) rfl (by kernel_rfl) (evs_cons (show Env.ev E (.tmp 29) = _ from g29.trans rfl) (evs_cons (show Env.ev E (.tmp 31) = _ from g31.trans rfl) (evs_cons (show Env.ev E (.tmp 33) = _ from g33.trans rfl) (rfl)))) (.cons (.agg (.cons (.d _) (.cons (.d _) (.cons (.d _) (.cons (.d _) (.cons (.d _) .nil)))))) (.cons (.one (.row rfl (by exact (hA_.row 1031 (by kernel_rfl)).trans rfl) rfl rfl)) (.cons (.agg (.cons (.row rfl (by exact (hA_.row 1033 (by kernel_rfl)).trans rfl) rfl rfl) (.cons (.d _) (.cons (.d _) (.cons (.row rfl (by exact (hA_.row 4033 (by kernel_rfl)).trans rfl) rfl rfl) (.cons (.row rfl (by exact (hA_.row 5033 (by kernel_rfl)).trans rfl) rfl rfl) (.cons (.row rfl (by exact (hA_.row 6033 (by kernel_rfl)).trans rfl) rfl rfl) .nil))))))) .nil))) (ok_spec_PutProof aL aB aP (by first | omega | assumption | (simp only [List.length_append] at *; omega)) (by assumption) (by assumption)) (.inr rfl) (At.freshRows hA_ rfl) (by simp) rfl)) ?_
    refine .cons (fun E hA_ => by have g34 := hA_.get 34 (by decide); exact OpStep.plain rfl (Step.move (p := (.tup [(false, [.row 1034 []]), (false, [.d (.bool (proofOk aL aP))])])) (t := 27) rfl rfl (by exact lt_ok rfl) (show Env.ev E (.tmp 34) = _ from g34.trans rfl))) ?_
    refine .cons (fun E hA_ => by have g27 := hA_.get 27 (by decide); exact OpStep.plain rfl (Step.extract (p := (.one (.row 1034 []))) (t := 35) rfl rfl (by exact lt_ok rfl) (show Env.ev E (.tmp 27) = _ from g27.trans rfl) rfl)) ?_
    refine .cons (fun E hA_ => by have g27 := hA_.get 27 (by decide); exact OpStep.plain rfl (Step.extract (p := (.one (.d (.bool (proofOk aL aP))))) (t := 36) rfl rfl (by exact lt_ok rfl) (show Env.ev E (.tmp 27) = _ from g27.trans rfl) rfl)) ?_
    refine .cons (fun E hA_ => by have g35 := hA_.get 35 (by decide); exact OpStep.plain rfl (Step.assign (p := (.one (.row 1034 []))) (t := 8) rfl rfl (by exact lt_ok rfl) (show Env.ev E (.tmp 35) = _ from g35.trans rfl))) ?_
    refine .cons (fun E hA_ => by have g36 := hA_.get 36 (by decide); exact OpStep.plain rfl (Step.assign (p := (.one (.d (.bool (proofOk aL aP))))) (t := 9) rfl rfl (by exact lt_ok rfl) (show Env.ev E (.tmp 36) = _ from g36.trans rfl))) ?_
    exact .nil _ _
   refine TL.nil ?_
   refine T.seq ?_
   refine T.region ?_
   refine TL.cons rfl (Step.move (p := (.one (.d (.ints .u8 aB)))) rfl rfl (lt_ok rfl) rfl) ?_
   refine TL.cons rfl (Step.call (f := 18) (xs := [.tmp 37]) (ps := [(.one (.d (.ints .u8 aB)))]) false (g := .func 18) rfl rfl (lt_ok rfl) rfl (by kernel_rfl) rfl (.cons (.one (.d _)) .nil) (ok_laws_toByteS aB (by first | omega | assumption | exact mem_getD h0_.2 (by omega))) (.inr rfl) rfl (by simp) rfl) ?_
   refine TL.cons rfl (Step.assign (p := (.one (.row 1038 []))) rfl rfl (lt_ok rfl) rfl) ?_
   refine TL.nil ?_
   refine T.seq ?_
   refine T.region ?_
   refine TL.cons rfl (Step.load_box_agg (n := 6) (qs := [.d (.sl 10 (aP.f0.map SHead.cells)), .d (.int .i64 aP.f1.f0), .d (.int .i64 aP.f1.f1), .d (.ints .u8 aP.f1.f2), .d (.ints .u8 aP.f1.f3), .d (.bss aP.f1.f4)]) rfl rfl (lt_ok rfl) (by kernel_rfl) rfl rfl rfl rfl) ?_
   refine TL.cons rfl (Step.call (f := 19) (xs := [.tmp 39]) (ps := [(.agg [.d (.sl 10 (aP.f0.map SHead.cells)), .d (.int .i64 aP.f1.f0), .d (.int .i64 aP.f1.f1), .d (.ints .u8 aP.f1.f2), .d (.ints .u8 aP.f1.f3), .d (.bss aP.f1.f4)])]) false (g := .func 19) rfl rfl (lt_ok rfl) rfl (by kernel_rfl) rfl (.cons (.agg (.cons (.d _) (.cons (.d _) (.cons (.d _) (.cons (.d _) (.cons (.d _) (.cons (.d _) .nil))))))) .nil) (ok_laws_toProof aP (by first | assumption | exact ⟨‹_›, ‹_›⟩ | (refine mem_getD (p := SProof.sm) h0_.2 (by omega)) | exact mem_getD h0_.2 (by omega))) (.inr rfl) rfl (by simp) rfl) ?_
   refine TL.cons rfl (Step.alloc (cs := [.slice none 0 0, .int .i64 0, .int .i64 0, .slice none 0 0, .slice none 0 0, .slice none 0 0]) (ps := [.nil, .d (.int .i64 0), .d (.int .i64 0), .nil, .nil, .nil]) rfl rfl (lt_ok rfl) (by kernel_rfl) rfl rfl rfl rfl) ?_
   refine TL.cons rfl (Step.store_box (n := 6) (p := (.agg [.row 1040 [], .d (.int .i64 aP.f1.f0), .d (.int .i64 aP.f1.f1), .row 4040 [], .row 5040 [], .row 6040 []])) (qs := [.row 1040 [], .d (.int .i64 aP.f1.f0), .d (.int .i64 aP.f1.f1), .row 4040 [], .row 5040 [], .row 6040 []]) (ps' := [.row 1040 [], .d (.int .i64 aP.f1.f0), .d (.int .i64 aP.f1.f1), .row 4040 [], .row 5040 [], .row 6040 []]) rfl rfl (by kernel_rfl) rfl rfl rfl rfl rfl rfl (le_ok rfl) rfl) ?_
   refine TL.nil ?_
   refine T.weaken (E' := { tm := [(1, (.one (.d (.ints .u8 aB)))), (3, (.one (.ptr 3 0))), (5, (.one (.ptr 5 0))), (6, (.one (.d (.bool false)))), (8, (.one (.row 1034 []))), (9, (.one (.d (.bool (proofOk aL aP))))), (10, (.one (.row 1038 []))), (11, (.one (.ptr 11 0)))], rows := [(1034, (5, (.ints .u8 (putProof aL aB aP)))), (1038, (5, (.ints .u8 aB))), (1040, (54, (.sl 10 (aP.f0.map SHead.cells)))), (4040, (5, (.ints .u8 aP.f1.f2))), (5040, (5, (.ints .u8 aP.f1.f3))), (6040, (24, (.bss aP.f1.f4)))], boxes := [(3, (23, [.d (.int .i64 aL.f0), .d (.int .i64 aL.f1), .d (.int .i64 aL.f2), .d (.int .i64 aL.f3), .d (.int .i64 aL.f4)])), (11, (40, [.row 1040 [], .d (.int .i64 aP.f1.f0), .d (.int .i64 aP.f1.f1), .row 4040 [], .row 5040 [], .row 6040 []])), (5, (30, [.d (.sl 10 (aP.f0.map SHead.cells)), .d (.int .i64 aP.f1.f0), .d (.int .i64 aP.f1.f1), .d (.ints .u8 aP.f1.f2), .d (.ints .u8 aP.f1.f3), .d (.bss aP.f1.f4)]))] }) (Env.le_mk ⟨by kernel_rfl, by kernel_rfl, by kernel_rfl, by kernel_rfl, by kernel_rfl, by kernel_rfl, by kernel_rfl, by kernel_rfl, trivial⟩ ⟨by kernel_rfl, by kernel_rfl, by kernel_rfl, by kernel_rfl, by kernel_rfl, by kernel_rfl, trivial⟩ ⟨by kernel_rfl, by kernel_rfl, by kernel_rfl, trivial⟩) ?_
   refine T.seq ?_
   have nn5 := @putProof_len aL aB aP (by assumption)
   refine T.draw [⟨42, (.agg [.d (.int .i64 aL.f0), .d (.int .i64 aL.f1), .d (.int .i64 aL.f2), .d (.int .i64 aL.f3), .d (.int .i64 aL.f4)]), []⟩, ⟨43, (.agg [.d (.int .i64 aL.f0), .d (.int .i64 aL.f1), .d (.int .i64 aL.f2), .d (.int .i64 aL.f3), .d (.int .i64 aL.f4)]), []⟩, ⟨44, (.one (.row 1038 [])), []⟩, ⟨45, (.agg [.row 1040 [], .d (.int .i64 aP.f1.f0), .d (.int .i64 aP.f1.f1), .row 4040 [], .row 5040 [], .row 6040 []]), []⟩, ⟨46, (.tup [(false, [.row 1046 []]), (false, [.d (.bool (proofOk aL aP))])]), [(1046, (5, (.ints .u8 (putProof aL aB aP))))]⟩, ⟨41, (.tup [(false, [.row 1046 []]), (false, [.d (.bool (proofOk aL aP))])]), []⟩, ⟨47, (.one (.row 1046 [])), []⟩, ⟨48, (.one (.d (.bool (proofOk aL aP)))), []⟩, ⟨12, (.one (.row 1046 [])), []⟩, ⟨13, (.one (.d (.bool (proofOk aL aP)))), []⟩] (by kernel_rfl) (by kernel_rfl) ?_ ?_
   ·
    refine .cons (fun E hA_ => by have g3 := hA_.get 3 (by decide); exact OpStep.plain rfl (Step.load_box_agg (n := 5) (qs := [.d (.int .i64 aL.f0), .d (.int .i64 aL.f1), .d (.int .i64 aL.f2), .d (.int .i64 aL.f3), .d (.int .i64 aL.f4)]) (t := 42) rfl rfl (by exact lt_ok rfl) (by kernel_rfl) (show Env.ev E (.tmp 3) = _ from g3.trans rfl) (by exact hA_.box rfl) rfl rfl)) ?_
    refine .cons (fun E hA_ => by have g42 := hA_.get 42 (by decide); exact OpStep.plain rfl (Step.call (f := 17) (xs := [.tmp 42]) (ps := [(.agg [.d (.int .i64 aL.f0), .d (.int .i64 aL.f1), .d (.int .i64 aL.f2), .d (.int .i64 aL.f3), .d (.int .i64 aL.f4)])]) false (g := .func 17) (t := 43) rfl rfl (by exact lt_ok rfl) rfl (by kernel_rfl) (evs_cons (show Env.ev E (.tmp 42) = _ from g42.trans rfl) (rfl)) (.cons (.agg (.cons (.d _) (.cons (.d _) (.cons (.d _) (.cons (.d _) (.cons (.d _) .nil)))))) .nil) (ok_laws_toLimits aL) (.inr rfl) (At.freshRows hA_ rfl) (by simp) rfl)) ?_
    refine .cons (fun E hA_ => by have g10 := hA_.get 10 (by decide); exact OpStep.plain rfl (Step.move (p := (.one (.row 1038 []))) (t := 44) rfl rfl (by exact lt_ok rfl) (show Env.ev E (.tmp 10) = _ from g10.trans rfl))) ?_
    refine .cons (fun E hA_ => by have g11 := hA_.get 11 (by decide); exact OpStep.plain rfl (Step.load_box_agg (n := 6) (qs := [.row 1040 [], .d (.int .i64 aP.f1.f0), .d (.int .i64 aP.f1.f1), .row 4040 [], .row 5040 [], .row 6040 []]) (t := 45) rfl rfl (by exact lt_ok rfl) (by kernel_rfl) (show Env.ev E (.tmp 11) = _ from g11.trans rfl) (by exact hA_.box rfl) rfl rfl)) ?_
    refine .cons (fun E hA_ => by have g43 := hA_.get 43 (by decide); have g44 := hA_.get 44 (by decide); have g45 := hA_.get 45 (by decide); exact OpStep.plain rfl (Step.call (f := 20) (xs := [.tmp 43, .tmp 44, .tmp 45]) (ps := [(.agg [.d (.int .i64 aL.f0), .d (.int .i64 aL.f1), .d (.int .i64 aL.f2), .d (.int .i64 aL.f3), .d (.int .i64 aL.f4)]), (.one (.row 1038 [])), (.agg [.row 1040 [], .d (.int .i64 aP.f1.f0), .d (.int .i64 aP.f1.f1), .row 4040 [], .row 5040 [], .row 6040 []])]) false (g := .func 20) (t := 46) rfl rfl (by exact lt_ok rfl) rfl (by kernel_rfl) (evs_cons (show Env.ev E (.tmp 43) = _ from g43.trans rfl) (evs_cons (show Env.ev E (.tmp 44) = _ from g44.trans rfl) (evs_cons (show Env.ev E (.tmp 45) = _ from g45.trans rfl) (rfl)))) (.cons (.agg (.cons (.d _) (.cons (.d _) (.cons (.d _) (.cons (.d _) (.cons (.d _) .nil)))))) (.cons (.one (.row rfl (by exact (hA_.row 1038 (by kernel_rfl)).trans rfl) rfl rfl)) (.cons (.agg (.cons (.row rfl (by exact (hA_.row 1040 (by kernel_rfl)).trans rfl) rfl rfl) (.cons (.d _) (.cons (.d _) (.cons (.row rfl (by exact (hA_.row 4040 (by kernel_rfl)).trans rfl) rfl rfl) (.cons (.row rfl (by exact (hA_.row 5040 (by kernel_rfl)).trans rfl) rfl rfl) (.cons (.row rfl (by exact (hA_.row 6040 (by kernel_rfl)).trans rfl) rfl rfl) .nil))))))) .nil))) (ok_impl_PutProof aL aB aP (by first | omega | assumption | (simp only [List.length_append] at *; omega)) (by assumption) (by assumption)) (.inr rfl) (At.freshRows hA_ rfl) (by simp) rfl)) ?_
    refine .cons (fun E hA_ => by have g46 := hA_.get 46 (by decide); exact OpStep.plain rfl (Step.move (p := (.tup [(false, [.row 1046 []]), (false, [.d (.bool (proofOk aL aP))])])) (t := 41) rfl rfl (by exact lt_ok rfl) (show Env.ev E (.tmp 46) = _ from g46.trans rfl))) ?_
    refine .cons (fun E hA_ => by have g41 := hA_.get 41 (by decide); exact OpStep.plain rfl (Step.extract (p := (.one (.row 1046 []))) (t := 47) rfl rfl (by exact lt_ok rfl) (show Env.ev E (.tmp 41) = _ from g41.trans rfl) rfl)) ?_
    refine .cons (fun E hA_ => by have g41 := hA_.get 41 (by decide); exact OpStep.plain rfl (Step.extract (p := (.one (.d (.bool (proofOk aL aP))))) (t := 48) rfl rfl (by exact lt_ok rfl) (show Env.ev E (.tmp 41) = _ from g41.trans rfl) rfl)) ?_
    refine .cons (fun E hA_ => by have g47 := hA_.get 47 (by decide); exact OpStep.plain rfl (Step.assign (p := (.one (.row 1046 []))) (t := 12) rfl rfl (by exact lt_ok rfl) (show Env.ev E (.tmp 47) = _ from g47.trans rfl))) ?_
    refine .cons (fun E hA_ => by have g48 := hA_.get 48 (by decide); exact OpStep.plain rfl (Step.assign (p := (.one (.d (.bool (proofOk aL aP))))) (t := 13) rfl rfl (by exact lt_ok rfl) (show Env.ev E (.tmp 48) = _ from g48.trans rfl))) ?_
    exact .nil _ _
   refine TL.nil ?_
   refine T.seq ?_
   refine T.seq ?_
   refine T.region ?_
   refine TL.cons rfl (Step.move (p := (.one (.row 1046 []))) rfl rfl (lt_ok rfl) rfl) ?_
   refine TL.cons rfl (Step.move (p := (.one (.row 1034 []))) rfl rfl (lt_ok rfl) rfl) ?_
   refine TL.cons rfl (Step.call (f := 21) (xs := [.tmp 49, .tmp 50]) (ps := [(.one (.row 1046 [])), (.one (.row 1034 []))]) false (g := .func 21) rfl rfl (lt_ok rfl) rfl (by kernel_rfl) rfl (.cons (.one (.row rfl rfl rfl rfl)) (.cons (.one (.row rfl rfl rfl rfl)) .nil)) (ok_laws_eqByteS (putProof aL aB aP) (putProof aL aB aP)) (.inr rfl) rfl (by simp) rfl) ?_
   refine TL.known 51 (c := true) (by simp) rfl ?_
   refine TL.cons rfl (Step.not (b := true) rfl rfl (lt_ok rfl) rfl) ?_
   refine TL.cons rfl (Step.move (p := (.one (.d (.bool false)))) rfl rfl (lt_ok rfl) rfl) ?_
   refine TL.gyes 53 rfl rfl (lt_ok rfl) rfl (Step.move (p := (.one (.d (.bool (proofOk aL aP))))) rfl rfl (lt_ok rfl) rfl) ?_
   refine TL.gyes 53 rfl rfl (lt_ok rfl) rfl (Step.move (p := (.one (.d (.bool (proofOk aL aP))))) rfl rfl (lt_ok rfl) rfl) ?_
   refine TL.gyes 53 rfl rfl (lt_ok rfl) rfl (Step.bneq (b := (proofOk aL aP)) (c := (proofOk aL aP)) rfl rfl (lt_ok rfl) (by kernel_rfl) rfl rfl) ?_
   refine TL.known 56 (c := false) (by simp) rfl ?_
   refine TL.cons rfl (Step.pick (b := false) (p := (.one (.d (.bool false)))) rfl rfl (lt_ok rfl) rfl rfl) ?_
   refine TL.nil ?_
   refine T.cond (b := false) rfl (fun h6_ => absurd h6_ (by simp)) (fun h6_ => ?_)
   refine T.skip ?_
   refine T.seq ?_
   refine T.seq ?_
   refine T.region ?_
   refine TL.cons rfl (Step.move (p := (.one (.row 1038 []))) rfl rfl (lt_ok rfl) rfl) ?_
   refine TL.cons rfl (Step.move (p := (.one (.d (.ints .u8 aB)))) rfl rfl (lt_ok rfl) rfl) ?_
   refine TL.cons rfl (Step.call (f := 18) (xs := [.tmp 59]) (ps := [(.one (.d (.ints .u8 aB)))]) false (g := .func 18) rfl rfl (lt_ok rfl) rfl (by kernel_rfl) rfl (.cons (.one (.d _)) .nil) (ok_laws_toByteS aB (by first | omega | assumption | exact mem_getD h0_.2 (by omega))) (.inr rfl) rfl (by simp) rfl) ?_
   refine TL.cons rfl (Step.call (f := 21) (xs := [.tmp 58, .tmp 60]) (ps := [(.one (.row 1038 [])), (.one (.row 1060 []))]) false (g := .func 21) rfl rfl (lt_ok rfl) rfl (by kernel_rfl) rfl (.cons (.one (.row rfl rfl rfl rfl)) (.cons (.one (.row rfl rfl rfl rfl)) .nil)) (ok_laws_eqByteS aB aB) (.inr rfl) rfl (by simp) rfl) ?_
   refine TL.known 61 (c := true) (by simp) rfl ?_
   refine TL.cons rfl (Step.not (b := true) rfl rfl (lt_ok rfl) rfl) ?_
   refine TL.nil ?_
   refine T.cond (b := false) rfl (fun h7_ => absurd h7_ (by simp)) (fun h7_ => ?_)
   refine T.skip ?_
   refine T.seq ?_
   refine T.seq ?_
   refine T.draw [⟨63, (.agg [.row 1040 [], .d (.int .i64 aP.f1.f0), .d (.int .i64 aP.f1.f1), .row 4040 [], .row 5040 [], .row 6040 []]), []⟩, ⟨64, (.agg [.d (.sl 10 (aP.f0.map SHead.cells)), .d (.int .i64 aP.f1.f0), .d (.int .i64 aP.f1.f1), .d (.ints .u8 aP.f1.f2), .d (.ints .u8 aP.f1.f3), .d (.bss aP.f1.f4)]), []⟩, ⟨65, (.agg [.row 1065 [], .d (.int .i64 aP.f1.f0), .d (.int .i64 aP.f1.f1), .row 4065 [], .row 5065 [], .row 6065 []]), [(6065, (24, (.bss aP.f1.f4))), (5065, (5, (.ints .u8 aP.f1.f3))), (4065, (5, (.ints .u8 aP.f1.f2))), (1065, (54, (.sl 10 (aP.f0.map SHead.cells))))]⟩, ⟨66, (.one (.d (.bool true))), []⟩, ⟨67, (.one (.d (.bool false))), []⟩] (by kernel_rfl) (by kernel_rfl) ?_ ?_
   ·
    refine .cons (fun E hA_ => by have g11 := hA_.get 11 (by decide); exact OpStep.plain rfl (Step.load_box_agg (n := 6) (qs := [.row 1040 [], .d (.int .i64 aP.f1.f0), .d (.int .i64 aP.f1.f1), .row 4040 [], .row 5040 [], .row 6040 []]) (t := 63) rfl rfl (by exact lt_ok rfl) (by kernel_rfl) (show Env.ev E (.tmp 11) = _ from g11.trans rfl) (by exact hA_.box rfl) rfl rfl)) ?_
    refine .cons (fun E hA_ => by have g5 := hA_.get 5 (by decide); exact OpStep.plain rfl (Step.load_box_agg (n := 6) (qs := [.d (.sl 10 (aP.f0.map SHead.cells)), .d (.int .i64 aP.f1.f0), .d (.int .i64 aP.f1.f1), .d (.ints .u8 aP.f1.f2), .d (.ints .u8 aP.f1.f3), .d (.bss aP.f1.f4)]) (t := 64) rfl rfl (by exact lt_ok rfl) (by kernel_rfl) (show Env.ev E (.tmp 5) = _ from g5.trans rfl) (by exact hA_.box rfl) rfl rfl)) ?_
    refine .cons (fun E hA_ => by have g64 := hA_.get 64 (by decide); exact OpStep.plain rfl (Step.call (f := 19) (xs := [.tmp 64]) (ps := [(.agg [.d (.sl 10 (aP.f0.map SHead.cells)), .d (.int .i64 aP.f1.f0), .d (.int .i64 aP.f1.f1), .d (.ints .u8 aP.f1.f2), .d (.ints .u8 aP.f1.f3), .d (.bss aP.f1.f4)])]) false (g := .func 19) (t := 65) rfl rfl (by exact lt_ok rfl) rfl (by kernel_rfl) (evs_cons (show Env.ev E (.tmp 64) = _ from g64.trans rfl) (rfl)) (.cons (.agg (.cons (.d _) (.cons (.d _) (.cons (.d _) (.cons (.d _) (.cons (.d _) (.cons (.d _) .nil))))))) .nil) (ok_laws_toProof aP (by first | assumption | exact ⟨‹_›, ‹_›⟩ | (refine mem_getD (p := SProof.sm) h0_.2 (by omega)) | exact mem_getD h0_.2 (by omega))) (.inr rfl) (At.freshRows hA_ rfl) (by simp) rfl)) ?_
    refine .cons (fun E hA_ => by have g63 := hA_.get 63 (by decide); have g65 := hA_.get 65 (by decide); exact OpStep.plain rfl (Step.to (E1 := E.set 66 (.one (.d (.bool (decide (aP = aP)))))) (congrArg (fun b_ => E.set 66 (.one (.d (.bool b_)))) (by simp : (decide (aP = aP)) = true)) (Step.call (f := 22) (xs := [.tmp 63, .tmp 65]) (ps := [(.agg [.row 1040 [], .d (.int .i64 aP.f1.f0), .d (.int .i64 aP.f1.f1), .row 4040 [], .row 5040 [], .row 6040 []]), (.agg [.row 1065 [], .d (.int .i64 aP.f1.f0), .d (.int .i64 aP.f1.f1), .row 4065 [], .row 5065 [], .row 6065 []])]) false (g := .func 22) (t := 66) rfl rfl (by exact lt_ok rfl) rfl (by kernel_rfl) (evs_cons (show Env.ev E (.tmp 63) = _ from g63.trans rfl) (evs_cons (show Env.ev E (.tmp 65) = _ from g65.trans rfl) (rfl))) (.cons (.agg (.cons (.row rfl (by exact (hA_.row 1040 (by kernel_rfl)).trans rfl) rfl rfl) (.cons (.d _) (.cons (.d _) (.cons (.row rfl (by exact (hA_.row 4040 (by kernel_rfl)).trans rfl) rfl rfl) (.cons (.row rfl (by exact (hA_.row 5040 (by kernel_rfl)).trans rfl) rfl rfl) (.cons (.row rfl (by exact (hA_.row 6040 (by kernel_rfl)).trans rfl) rfl rfl) .nil))))))) (.cons (.agg (.cons (.row rfl (by exact (hA_.row 1065 (by kernel_rfl)).trans rfl) rfl rfl) (.cons (.d _) (.cons (.d _) (.cons (.row rfl (by exact (hA_.row 4065 (by kernel_rfl)).trans rfl) rfl rfl) (.cons (.row rfl (by exact (hA_.row 5065 (by kernel_rfl)).trans rfl) rfl rfl) (.cons (.row rfl (by exact (hA_.row 6065 (by kernel_rfl)).trans rfl) rfl rfl) .nil))))))) .nil)) (ok_laws_eqProof aP aP) (.inr rfl) (At.freshRows hA_ rfl) (by simp) rfl))) ?_
    refine .cons (fun E hA_ => by have g66 := hA_.get 66 (by decide); exact OpStep.plain rfl (Step.not (b := true) (t := 67) rfl rfl (by exact lt_ok rfl) (show Env.ev E (.tmp 66) = _ from g66.trans rfl))) ?_
    exact .nil _ _
   refine TL.nil ?_
   refine T.cond (b := false) rfl (fun h8_ => absurd h8_ (by simp)) (fun h8_ => ?_)
   refine T.skip ?_
   refine T.seq ?_
   refine T.region ?_
   refine TL.cons rfl (Step.assign (p := (.one (.d (.int .i64 1)))) rfl rfl (lt_ok rfl) rfl) ?_
   refine TL.nil ?_
   refine T.seq ?_
   refine T.region ?_
   refine TL.cons rfl (Step.move (p := (.one (.row 1038 []))) rfl rfl (lt_ok rfl) rfl) ?_
   refine TL.cons rfl (Step.move (p := (.one (.d (.int .i64 1)))) rfl rfl (lt_ok rfl) rfl) ?_
   refine TL.cons rfl (Step.callM (f := 23) (xs := [.tmp 68, .tmp 69]) (ps := [(.one (.row 1038 [])), (.one (.d (.int .i64 1)))]) (args := [.one (.mk (.ints .u8 aB) (.ints .u8 (mkB aB 1))), .one (.rd (.int .i64 1))]) (js := [(1038, (.ints .u8 (mkB aB 1)))]) (x := (.int .i64 (1 + (aB.length : Int)))) (g := .func 23) rfl rfl (lt_ok rfl) rfl (by kernel_rfl) rfl rfl (.row (T := 5) (d := (.ints .u8 aB)) (e' := (.ints .u8 (mkB aB 1))) (d' := (.ints .u8 (mkB aB 1))) rfl rfl rfl rfl rfl (by simp [D.size, mkL_length]) rfl rfl (.d .nil)) (ok_laws_markByteS aB 1 (by omega) (by first | omega | (have := (by assumption); omega))) rfl) ?_
   refine TL.cons rfl (Step.assign (p := (.one (.d (.int .i64 (1 + (aB.length : Int)))))) rfl rfl (lt_ok rfl) rfl) ?_
   refine TL.nil ?_
   refine T.weaken (E' := { tm := [(1, (.one (.d (.ints .u8 aB)))), (3, (.one (.ptr 3 0))), (5, (.one (.ptr 5 0))), (6, (.one (.d (.bool false)))), (8, (.one (.row 1034 []))), (9, (.one (.d (.bool (proofOk aL aP))))), (11, (.one (.ptr 11 0))), (12, (.one (.row 1046 []))), (13, (.one (.d (.bool (proofOk aL aP))))), (14, (.one (.d (.int .i64 (1 + (aB.length : Int))))))], rows := [(1034, (5, (.ints .u8 (putProof aL aB aP)))), (1040, (54, (.sl 10 (aP.f0.map SHead.cells)))), (4040, (5, (.ints .u8 aP.f1.f2))), (5040, (5, (.ints .u8 aP.f1.f3))), (6040, (24, (.bss aP.f1.f4))), (1046, (5, (.ints .u8 (putProof aL aB aP))))], boxes := [(3, (23, [.d (.int .i64 aL.f0), .d (.int .i64 aL.f1), .d (.int .i64 aL.f2), .d (.int .i64 aL.f3), .d (.int .i64 aL.f4)])), (11, (40, [.row 1040 [], .d (.int .i64 aP.f1.f0), .d (.int .i64 aP.f1.f1), .row 4040 [], .row 5040 [], .row 6040 []])), (5, (30, [.d (.sl 10 (aP.f0.map SHead.cells)), .d (.int .i64 aP.f1.f0), .d (.int .i64 aP.f1.f1), .d (.ints .u8 aP.f1.f2), .d (.ints .u8 aP.f1.f3), .d (.bss aP.f1.f4)]))] }) (Env.le_mk ⟨by kernel_rfl, by kernel_rfl, by kernel_rfl, by kernel_rfl, by kernel_rfl, by kernel_rfl, by kernel_rfl, by kernel_rfl, by kernel_rfl, by kernel_rfl, trivial⟩ ⟨by kernel_rfl, by kernel_rfl, by kernel_rfl, by kernel_rfl, by kernel_rfl, by kernel_rfl, trivial⟩ ⟨by kernel_rfl, by kernel_rfl, by kernel_rfl, trivial⟩) ?_
   refine T.seq ?_
   refine T.region ?_
   refine TL.cons rfl (Step.load_box_agg (n := 6) (qs := [.row 1040 [], .d (.int .i64 aP.f1.f0), .d (.int .i64 aP.f1.f1), .row 4040 [], .row 5040 [], .row 6040 []]) rfl rfl (lt_ok rfl) (by kernel_rfl) rfl rfl rfl rfl) ?_
   refine TL.cons rfl (Step.move (p := (.one (.d (.int .i64 (1 + (aB.length : Int)))))) rfl rfl (lt_ok rfl) rfl) ?_
   have nn9 := SProof.cm_nn aP
   refine TL.cons rfl (Step.callM (f := 24) (xs := [.tmp 71, .tmp 72]) (ps := [(.agg [.row 1040 [], .d (.int .i64 aP.f1.f0), .d (.int .i64 aP.f1.f1), .row 4040 [], .row 5040 [], .row 6040 []]), (.one (.d (.int .i64 (1 + (aB.length : Int)))))]) (args := [.agg [.mk (.sl 10 (aP.f0.map SHead.cells)) (.sl 10 ((mkL SHead.ce SHead.me aP.f0 (1 + (aB.length : Int))).map SHead.cells)), .rd (.int .i64 aP.f1.f0), .rd (.int .i64 aP.f1.f1), .mk (.ints .u8 aP.f1.f2) (.ints .u8 (mkB aP.f1.f2 ((1 + (aB.length : Int)) + cntL SHead.ce aP.f0))), .mk (.ints .u8 aP.f1.f3) (.ints .u8 (mkB aP.f1.f3 (((1 + (aB.length : Int)) + cntL SHead.ce aP.f0) + (aP.f1.f2.length : Int)))), .mk (.bss aP.f1.f4) (.bss (mkBs aP.f1.f4 ((((1 + (aB.length : Int)) + cntL SHead.ce aP.f0) + (aP.f1.f2.length : Int)) + (aP.f1.f3.length : Int))))], .one (.rd (.int .i64 (1 + (aB.length : Int))))]) (js := [(1040, (.sl 10 ((mkL SHead.ce SHead.me aP.f0 (1 + (aB.length : Int))).map SHead.cells))), (4040, (.ints .u8 (mkB aP.f1.f2 ((1 + (aB.length : Int)) + cntL SHead.ce aP.f0)))), (5040, (.ints .u8 (mkB aP.f1.f3 (((1 + (aB.length : Int)) + cntL SHead.ce aP.f0) + (aP.f1.f2.length : Int))))), (6040, (.bss (mkBs aP.f1.f4 ((((1 + (aB.length : Int)) + cntL SHead.ce aP.f0) + (aP.f1.f2.length : Int)) + (aP.f1.f3.length : Int)))))]) (x := (.int .i64 ((1 + (aB.length : Int)) + aP.cm))) (g := .func 24) rfl rfl (lt_ok rfl) rfl (by kernel_rfl) rfl rfl (.row (T := 54) (d := (.sl 10 (aP.f0.map SHead.cells))) (e' := (.sl 10 ((mkL SHead.ce SHead.me aP.f0 (1 + (aB.length : Int))).map SHead.cells))) (d' := (.sl 10 ((mkL SHead.ce SHead.me aP.f0 (1 + (aB.length : Int))).map SHead.cells))) rfl rfl rfl rfl rfl (by simp [D.size, mkL_length]) rfl rfl (.d (.d (.row (T := 5) (d := (.ints .u8 aP.f1.f2)) (e' := (.ints .u8 (mkB aP.f1.f2 ((1 + (aB.length : Int)) + cntL SHead.ce aP.f0)))) (d' := (.ints .u8 (mkB aP.f1.f2 ((1 + (aB.length : Int)) + cntL SHead.ce aP.f0)))) rfl rfl rfl rfl rfl (by simp [D.size, mkL_length]) rfl rfl (.row (T := 5) (d := (.ints .u8 aP.f1.f3)) (e' := (.ints .u8 (mkB aP.f1.f3 (((1 + (aB.length : Int)) + cntL SHead.ce aP.f0) + (aP.f1.f2.length : Int))))) (d' := (.ints .u8 (mkB aP.f1.f3 (((1 + (aB.length : Int)) + cntL SHead.ce aP.f0) + (aP.f1.f2.length : Int))))) rfl rfl rfl rfl rfl (by simp [D.size, mkL_length]) rfl rfl (.row (T := 24) (d := (.bss aP.f1.f4)) (e' := (.bss (mkBs aP.f1.f4 ((((1 + (aB.length : Int)) + cntL SHead.ce aP.f0) + (aP.f1.f2.length : Int)) + (aP.f1.f3.length : Int))))) (d' := (.bss (mkBs aP.f1.f4 ((((1 + (aB.length : Int)) + cntL SHead.ce aP.f0) + (aP.f1.f2.length : Int)) + (aP.f1.f3.length : Int))))) rfl rfl rfl rfl rfl (by simp [D.size, mkL_length]) rfl rfl (.d .nil))))))) (ok_laws_markProof aP (1 + (aB.length : Int)) (by omega) (by first | omega | (have := SProof.cm_le (x := aP) (by assumption); omega))) rfl) ?_
   refine TL.cons rfl (Step.assign (p := (.one (.d (.int .i64 ((1 + (aB.length : Int)) + aP.cm))))) rfl rfl (lt_ok rfl) rfl) ?_
   refine TL.nil ?_
   refine T.seq ?_
   refine T.seq ?_
   refine T.region ?_
   refine TL.cons rfl (Step.move (p := (.one (.d (.int .i64 ((1 + (aB.length : Int)) + aP.cm))))) rfl rfl (lt_ok rfl) rfl) ?_
   refine TL.cons rfl (Step.bin rfl rfl (lt_ok rfl) rfl rfl (Bin.lss (k := .i64) (a := ((1 + (aB.length : Int)) + aP.cm)) (b := 0))) ?_
   refine TL.known 75 (c := false) (decide_eq_false (by omega)) rfl ?_
   refine TL.cons rfl (Step.move (p := (.one (.d (.bool false)))) rfl rfl (lt_ok rfl) rfl) ?_
   refine TL.gyes 76 rfl rfl (lt_ok rfl) rfl (Step.move (p := (.one (.row 1046 []))) rfl rfl (lt_ok rfl) rfl) ?_
   refine TL.gyes 76 rfl rfl (lt_ok rfl) rfl (Step.move (p := (.one (.row 1034 []))) rfl rfl (lt_ok rfl) rfl) ?_
   refine TL.gyes 76 rfl rfl (lt_ok rfl) rfl (Step.call (f := 21) (xs := [.tmp 77, .tmp 78]) (ps := [(.one (.row 1046 [])), (.one (.row 1034 []))]) false (g := .func 21) rfl rfl (lt_ok rfl) rfl (by kernel_rfl) rfl (.cons (.one (.row rfl rfl rfl rfl)) (.cons (.one (.row rfl rfl rfl rfl)) .nil)) (ok_laws_eqByteS (putProof aL aB aP) (putProof aL aB aP)) (.inr rfl) rfl (by simp) rfl) ?_
   refine TL.known 79 (c := true) (by simp) rfl ?_
   refine TL.gyes 76 rfl rfl (lt_ok rfl) rfl (Step.not (b := true) rfl rfl (lt_ok rfl) rfl) ?_
   refine TL.cons rfl (Step.pick (b := false) (p := (.one (.d (.bool false)))) rfl rfl (lt_ok rfl) rfl rfl) ?_
   refine TL.cons rfl (Step.move (p := (.one (.d (.bool false)))) rfl rfl (lt_ok rfl) rfl) ?_
   refine TL.gyes 82 rfl rfl (lt_ok rfl) rfl (Step.move (p := (.one (.d (.bool (proofOk aL aP))))) rfl rfl (lt_ok rfl) rfl) ?_
   refine TL.gyes 82 rfl rfl (lt_ok rfl) rfl (Step.move (p := (.one (.d (.bool (proofOk aL aP))))) rfl rfl (lt_ok rfl) rfl) ?_
   refine TL.gyes 82 rfl rfl (lt_ok rfl) rfl (Step.bneq (b := (proofOk aL aP)) (c := (proofOk aL aP)) rfl rfl (lt_ok rfl) (by kernel_rfl) rfl rfl) ?_
   refine TL.known 85 (c := false) (by simp) rfl ?_
   refine TL.cons rfl (Step.pick (b := false) (p := (.one (.d (.bool false)))) rfl rfl (lt_ok rfl) rfl rfl) ?_
   refine TL.nil ?_
   refine T.cond (b := false) rfl (fun h10_ => absurd h10_ (by simp)) (fun h10_ => ?_)
   refine T.skip ?_
   refine T.seq ?_
   refine T.region ?_
   refine TL.cons rfl (Step.assign (p := (.one (.d (.int .i64 1)))) rfl rfl (lt_ok rfl) rfl) ?_
   refine TL.nil ?_
   refine T.seq ?_
   refine T.region ?_
   refine TL.cons rfl (Step.move (p := (.one (.row 1046 []))) rfl rfl (lt_ok rfl) rfl) ?_
   refine TL.cons rfl (Step.move (p := (.one (.d (.int .i64 1)))) rfl rfl (lt_ok rfl) rfl) ?_
   refine TL.cons rfl (Step.callM (f := 23) (xs := [.tmp 87, .tmp 88]) (ps := [(.one (.row 1046 [])), (.one (.d (.int .i64 1)))]) (args := [.one (.mk (.ints .u8 (putProof aL aB aP)) (.ints .u8 (mkB (putProof aL aB aP) 1))), .one (.rd (.int .i64 1))]) (js := [(1046, (.ints .u8 (mkB (putProof aL aB aP) 1)))]) (x := (.int .i64 (1 + ((putProof aL aB aP).length : Int)))) (g := .func 23) rfl rfl (lt_ok rfl) rfl (by kernel_rfl) rfl rfl (.row (T := 5) (d := (.ints .u8 (putProof aL aB aP))) (e' := (.ints .u8 (mkB (putProof aL aB aP) 1))) (d' := (.ints .u8 (mkB (putProof aL aB aP) 1))) rfl rfl rfl rfl rfl (by simp [D.size, mkL_length]) rfl rfl (.d .nil)) (ok_laws_markByteS (putProof aL aB aP) 1 (by omega) (by first | omega | (have := (by assumption); omega))) rfl) ?_
   refine TL.cons rfl (Step.assign (p := (.one (.d (.int .i64 (1 + ((putProof aL aB aP).length : Int)))))) rfl rfl (lt_ok rfl) rfl) ?_
   refine TL.nil ?_
   refine T.seq ?_
   refine T.region ?_
   refine TL.cons rfl (Step.assign (p := (.one (.d (.int .i64 1)))) rfl rfl (lt_ok rfl) rfl) ?_
   refine TL.nil ?_
   refine T.seq ?_
   refine T.region ?_
   refine TL.cons rfl (Step.move (p := (.one (.row 1046 []))) rfl rfl (lt_ok rfl) rfl) ?_
   refine TL.cons rfl (Step.move (p := (.one (.d (.int .i64 1)))) rfl rfl (lt_ok rfl) rfl) ?_
   refine TL.cons rfl (Step.call (f := 25) (xs := [.tmp 90, .tmp 91]) (ps := [(.one (.row 1046 [])), (.one (.d (.int .i64 1)))]) false (g := .func 25) rfl rfl (lt_ok rfl) rfl (by kernel_rfl) rfl (.cons (.one (.row rfl rfl rfl rfl)) (.cons (.one (.d _)) .nil)) (ok_laws_heldByteS (putProof aL aB aP) (mkB (putProof aL aB aP) 1) 1 (by omega) (by first | omega | (have := (by assumption); omega)) (by first | rfl | assumption | (repeat' (first | rfl | apply And.intro)))) (.inr rfl) rfl (by simp) rfl) ?_
   refine TL.cons rfl (Step.assign (p := (.one (.d (.int .i64 (1 + ((putProof aL aB aP).length : Int)))))) rfl rfl (lt_ok rfl) rfl) ?_
   refine TL.nil ?_
   refine T.seq ?_
   refine T.seq ?_
   refine T.region ?_
   refine TL.cons rfl (Step.move (p := (.one (.d (.int .i64 (1 + ((putProof aL aB aP).length : Int)))))) rfl rfl (lt_ok rfl) rfl) ?_
   refine TL.cons rfl (Step.bin rfl rfl (lt_ok rfl) rfl rfl (Bin.lss (k := .i64) (a := (1 + ((putProof aL aB aP).length : Int))) (b := 0))) ?_
   refine TL.known 94 (c := false) (decide_eq_false (by omega)) rfl ?_
   refine TL.nil ?_
   refine T.cond (b := false) rfl (fun h11_ => absurd h11_ (by simp)) (fun h11_ => ?_)
   refine T.skip ?_
   refine T.seq ?_
   refine T.seq ?_
   refine T.region ?_
   refine TL.cons rfl (Step.move (p := (.one (.d (.int .i64 (1 + ((putProof aL aB aP).length : Int)))))) rfl rfl (lt_ok rfl) rfl) ?_
   refine TL.cons rfl (Step.move (p := (.one (.d (.int .i64 (1 + ((putProof aL aB aP).length : Int)))))) rfl rfl (lt_ok rfl) rfl) ?_
   refine TL.cons rfl (Step.bin rfl rfl (lt_ok rfl) rfl rfl (Bin.neq (k := .i64) (a := (1 + ((putProof aL aB aP).length : Int))) (b := (1 + ((putProof aL aB aP).length : Int))))) ?_
   refine TL.known 97 (c := false) (by simp) rfl ?_
   refine TL.nil ?_
   refine T.cond (b := false) rfl (fun h12_ => absurd h12_ (by simp)) (fun h12_ => ?_)
   refine T.skip ?_
   refine T.seq ?_
   have nn13 := @putProof_len aL aB aP (by assumption)
   refine T.draw [⟨99, (.agg [.d (.int .i64 aL.f0), .d (.int .i64 aL.f1), .d (.int .i64 aL.f2), .d (.int .i64 aL.f3), .d (.int .i64 aL.f4)]), []⟩, ⟨100, (.agg [.d (.int .i64 aL.f0), .d (.int .i64 aL.f1), .d (.int .i64 aL.f2), .d (.int .i64 aL.f3), .d (.int .i64 aL.f4)]), []⟩, ⟨101, (.one (.d (.ints .u8 aB))), []⟩, ⟨102, (.one (.row 1102 [])), [(1102, (5, (.ints .u8 aB)))]⟩, ⟨103, (.agg [.d (.sl 10 (aP.f0.map SHead.cells)), .d (.int .i64 aP.f1.f0), .d (.int .i64 aP.f1.f1), .d (.ints .u8 aP.f1.f2), .d (.ints .u8 aP.f1.f3), .d (.bss aP.f1.f4)]), []⟩, ⟨104, (.agg [.row 1104 [], .d (.int .i64 aP.f1.f0), .d (.int .i64 aP.f1.f1), .row 4104 [], .row 5104 [], .row 6104 []]), [(6104, (24, (.bss aP.f1.f4))), (5104, (5, (.ints .u8 aP.f1.f3))), (4104, (5, (.ints .u8 aP.f1.f2))), (1104, (54, (.sl 10 (aP.f0.map SHead.cells))))]⟩, ⟨105, (.tup [(false, [.row 1105 []]), (false, [.d (.bool (proofOk aL aP))])]), [(1105, (5, (.ints .u8 (putProof aL aB aP))))]⟩, ⟨98, (.tup [(false, [.row 1105 []]), (false, [.d (.bool (proofOk aL aP))])]), []⟩, ⟨106, (.one (.row 1105 [])), []⟩, ⟨107, (.one (.d (.bool (proofOk aL aP)))), []⟩, ⟨17, (.one (.row 1105 [])), []⟩, ⟨18, (.one (.d (.bool (proofOk aL aP)))), []⟩] (by kernel_rfl) (by kernel_rfl) ?_ ?_
   ·
    refine .cons (fun E hA_ => by have g3 := hA_.get 3 (by decide); exact OpStep.plain rfl (Step.load_box_agg (n := 5) (qs := [.d (.int .i64 aL.f0), .d (.int .i64 aL.f1), .d (.int .i64 aL.f2), .d (.int .i64 aL.f3), .d (.int .i64 aL.f4)]) (t := 99) rfl rfl (by exact lt_ok rfl) (by kernel_rfl) (show Env.ev E (.tmp 3) = _ from g3.trans rfl) (by exact hA_.box rfl) rfl rfl)) ?_
    refine .cons (fun E hA_ => by have g99 := hA_.get 99 (by decide); exact OpStep.plain rfl (Step.call (f := 17) (xs := [.tmp 99]) (ps := [(.agg [.d (.int .i64 aL.f0), .d (.int .i64 aL.f1), .d (.int .i64 aL.f2), .d (.int .i64 aL.f3), .d (.int .i64 aL.f4)])]) false (g := .func 17) (t := 100) rfl rfl (by exact lt_ok rfl) rfl (by kernel_rfl) (evs_cons (show Env.ev E (.tmp 99) = _ from g99.trans rfl) (rfl)) (.cons (.agg (.cons (.d _) (.cons (.d _) (.cons (.d _) (.cons (.d _) (.cons (.d _) .nil)))))) .nil) (ok_laws_toLimits aL) (.inr rfl) (At.freshRows hA_ rfl) (by simp) rfl)) ?_
    refine .cons (fun E hA_ => by have g1 := hA_.get 1 (by decide); exact OpStep.plain rfl (Step.move (p := (.one (.d (.ints .u8 aB)))) (t := 101) rfl rfl (by exact lt_ok rfl) (show Env.ev E (.tmp 1) = _ from g1.trans rfl))) ?_
    refine .cons (fun E hA_ => by have g101 := hA_.get 101 (by decide); exact OpStep.plain rfl (Step.call (f := 18) (xs := [.tmp 101]) (ps := [(.one (.d (.ints .u8 aB)))]) false (g := .func 18) (t := 102) rfl rfl (by exact lt_ok rfl) rfl (by kernel_rfl) (evs_cons (show Env.ev E (.tmp 101) = _ from g101.trans rfl) (rfl)) (.cons (.one (.d _)) .nil) (ok_laws_toByteS aB (by first | omega | assumption | exact mem_getD h0_.2 (by omega))) (.inr rfl) (At.freshRows hA_ rfl) (by simp) rfl)) ?_
    refine .cons (fun E hA_ => by have g5 := hA_.get 5 (by decide); exact OpStep.plain rfl (Step.load_box_agg (n := 6) (qs := [.d (.sl 10 (aP.f0.map SHead.cells)), .d (.int .i64 aP.f1.f0), .d (.int .i64 aP.f1.f1), .d (.ints .u8 aP.f1.f2), .d (.ints .u8 aP.f1.f3), .d (.bss aP.f1.f4)]) (t := 103) rfl rfl (by exact lt_ok rfl) (by kernel_rfl) (show Env.ev E (.tmp 5) = _ from g5.trans rfl) (by exact hA_.box rfl) rfl rfl)) ?_
    refine .cons (fun E hA_ => by have g103 := hA_.get 103 (by decide); exact OpStep.plain rfl (Step.call (f := 19) (xs := [.tmp 103]) (ps := [(.agg [.d (.sl 10 (aP.f0.map SHead.cells)), .d (.int .i64 aP.f1.f0), .d (.int .i64 aP.f1.f1), .d (.ints .u8 aP.f1.f2), .d (.ints .u8 aP.f1.f3), .d (.bss aP.f1.f4)])]) false (g := .func 19) (t := 104) rfl rfl (by exact lt_ok rfl) rfl (by kernel_rfl) (evs_cons (show Env.ev E (.tmp 103) = _ from g103.trans rfl) (rfl)) (.cons (.agg (.cons (.d _) (.cons (.d _) (.cons (.d _) (.cons (.d _) (.cons (.d _) (.cons (.d _) .nil))))))) .nil) (ok_laws_toProof aP (by first | assumption | exact ⟨‹_›, ‹_›⟩ | (refine mem_getD (p := SProof.sm) h0_.2 (by omega)) | exact mem_getD h0_.2 (by omega))) (.inr rfl) (At.freshRows hA_ rfl) (by simp) rfl)) ?_
    refine .cons (fun E hA_ => by have g100 := hA_.get 100 (by decide); have g102 := hA_.get 102 (by decide); have g104 := hA_.get 104 (by decide); exact OpStep.plain rfl (Step.call (f := 20) (xs := [.tmp 100, .tmp 102, .tmp 104]) (ps := [(.agg [.d (.int .i64 aL.f0), .d (.int .i64 aL.f1), .d (.int .i64 aL.f2), .d (.int .i64 aL.f3), .d (.int .i64 aL.f4)]), (.one (.row 1102 [])), (.agg [.row 1104 [], .d (.int .i64 aP.f1.f0), .d (.int .i64 aP.f1.f1), .row 4104 [], .row 5104 [], .row 6104 []])]) false (g := .func 20) (t := 105) rfl rfl (by exact lt_ok rfl) rfl (by kernel_rfl) (evs_cons (show Env.ev E (.tmp 100) = _ from g100.trans rfl) (evs_cons (show Env.ev E (.tmp 102) = _ from g102.trans rfl) (evs_cons (show Env.ev E (.tmp 104) = _ from g104.trans rfl) (rfl)))) (.cons (.agg (.cons (.d _) (.cons (.d _) (.cons (.d _) (.cons (.d _) (.cons (.d _) .nil)))))) (.cons (.one (.row rfl (by exact (hA_.row 1102 (by kernel_rfl)).trans rfl) rfl rfl)) (.cons (.agg (.cons (.row rfl (by exact (hA_.row 1104 (by kernel_rfl)).trans rfl) rfl rfl) (.cons (.d _) (.cons (.d _) (.cons (.row rfl (by exact (hA_.row 4104 (by kernel_rfl)).trans rfl) rfl rfl) (.cons (.row rfl (by exact (hA_.row 5104 (by kernel_rfl)).trans rfl) rfl rfl) (.cons (.row rfl (by exact (hA_.row 6104 (by kernel_rfl)).trans rfl) rfl rfl) .nil))))))) .nil))) (ok_impl_PutProof aL aB aP (by first | omega | assumption | (simp only [List.length_append] at *; omega)) (by assumption) (by assumption)) (.inr rfl) (At.freshRows hA_ rfl) (by simp) rfl)) ?_
    refine .cons (fun E hA_ => by have g105 := hA_.get 105 (by decide); exact OpStep.plain rfl (Step.move (p := (.tup [(false, [.row 1105 []]), (false, [.d (.bool (proofOk aL aP))])])) (t := 98) rfl rfl (by exact lt_ok rfl) (show Env.ev E (.tmp 105) = _ from g105.trans rfl))) ?_
    refine .cons (fun E hA_ => by have g98 := hA_.get 98 (by decide); exact OpStep.plain rfl (Step.extract (p := (.one (.row 1105 []))) (t := 106) rfl rfl (by exact lt_ok rfl) (show Env.ev E (.tmp 98) = _ from g98.trans rfl) rfl)) ?_
    refine .cons (fun E hA_ => by have g98 := hA_.get 98 (by decide); exact OpStep.plain rfl (Step.extract (p := (.one (.d (.bool (proofOk aL aP))))) (t := 107) rfl rfl (by exact lt_ok rfl) (show Env.ev E (.tmp 98) = _ from g98.trans rfl) rfl)) ?_
    refine .cons (fun E hA_ => by have g106 := hA_.get 106 (by decide); exact OpStep.plain rfl (Step.assign (p := (.one (.row 1105 []))) (t := 17) rfl rfl (by exact lt_ok rfl) (show Env.ev E (.tmp 106) = _ from g106.trans rfl))) ?_
    refine .cons (fun E hA_ => by have g107 := hA_.get 107 (by decide); exact OpStep.plain rfl (Step.assign (p := (.one (.d (.bool (proofOk aL aP))))) (t := 18) rfl rfl (by exact lt_ok rfl) (show Env.ev E (.tmp 107) = _ from g107.trans rfl))) ?_
    exact .nil _ _
   refine TL.nil ?_
   refine T.weaken (E' := { tm := [(6, (.one (.d (.bool false)))), (8, (.one (.row 1034 []))), (9, (.one (.d (.bool (proofOk aL aP))))), (12, (.one (.row 1046 []))), (15, (.one (.d (.int .i64 (1 + ((putProof aL aB aP).length : Int)))))), (16, (.one (.d (.int .i64 (1 + ((putProof aL aB aP).length : Int)))))), (17, (.one (.row 1105 []))), (18, (.one (.d (.bool (proofOk aL aP)))))], rows := [(1034, (5, (.ints .u8 (putProof aL aB aP)))), (1046, (5, (.ints .u8 (mkB (putProof aL aB aP) 1)))), (1105, (5, (.ints .u8 (putProof aL aB aP))))], boxes := [] }) (Env.le_mk ⟨by kernel_rfl, by kernel_rfl, by kernel_rfl, by kernel_rfl, by kernel_rfl, by kernel_rfl, by kernel_rfl, by kernel_rfl, trivial⟩ ⟨by kernel_rfl, by kernel_rfl, by kernel_rfl, trivial⟩ trivial) ?_
   refine T.seq ?_
   refine T.seq ?_
   refine T.region ?_
   refine TL.cons rfl (Step.move (p := (.one (.row 1105 []))) rfl rfl (lt_ok rfl) rfl) ?_
   refine TL.cons rfl (Step.move (p := (.one (.row 1034 []))) rfl rfl (lt_ok rfl) rfl) ?_
   refine TL.cons rfl (Step.call (f := 21) (xs := [.tmp 108, .tmp 109]) (ps := [(.one (.row 1105 [])), (.one (.row 1034 []))]) false (g := .func 21) rfl rfl (lt_ok rfl) rfl (by kernel_rfl) rfl (.cons (.one (.row rfl rfl rfl rfl)) (.cons (.one (.row rfl rfl rfl rfl)) .nil)) (ok_laws_eqByteS (putProof aL aB aP) (putProof aL aB aP)) (.inr rfl) rfl (by simp) rfl) ?_
   refine TL.known 110 (c := true) (by simp) rfl ?_
   refine TL.cons rfl (Step.not (b := true) rfl rfl (lt_ok rfl) rfl) ?_
   refine TL.cons rfl (Step.move (p := (.one (.d (.bool false)))) rfl rfl (lt_ok rfl) rfl) ?_
   refine TL.gyes 112 rfl rfl (lt_ok rfl) rfl (Step.move (p := (.one (.d (.bool (proofOk aL aP))))) rfl rfl (lt_ok rfl) rfl) ?_
   refine TL.gyes 112 rfl rfl (lt_ok rfl) rfl (Step.move (p := (.one (.d (.bool (proofOk aL aP))))) rfl rfl (lt_ok rfl) rfl) ?_
   refine TL.gyes 112 rfl rfl (lt_ok rfl) rfl (Step.bneq (b := (proofOk aL aP)) (c := (proofOk aL aP)) rfl rfl (lt_ok rfl) (by kernel_rfl) rfl rfl) ?_
   refine TL.known 115 (c := false) (by simp) rfl ?_
   refine TL.cons rfl (Step.pick (b := false) (p := (.one (.d (.bool false)))) rfl rfl (lt_ok rfl) rfl rfl) ?_
   refine TL.nil ?_
   refine T.cond (b := false) rfl (fun h14_ => absurd h14_ (by simp)) (fun h14_ => ?_)
   refine T.skip ?_
   refine T.seq ?_
   refine T.region ?_
   refine TL.cons rfl (Step.assign (p := (.one (.d (.int .i64 1)))) rfl rfl (lt_ok rfl) rfl) ?_
   refine TL.nil ?_
   refine T.seq ?_
   refine T.region ?_
   refine TL.cons rfl (Step.move (p := (.one (.row 1046 []))) rfl rfl (lt_ok rfl) rfl) ?_
   refine TL.cons rfl (Step.move (p := (.one (.d (.int .i64 1)))) rfl rfl (lt_ok rfl) rfl) ?_
   refine TL.cons rfl (Step.call (f := 25) (xs := [.tmp 117, .tmp 118]) (ps := [(.one (.row 1046 [])), (.one (.d (.int .i64 1)))]) false (g := .func 25) rfl rfl (lt_ok rfl) rfl (by kernel_rfl) rfl (.cons (.one (.row rfl rfl rfl rfl)) (.cons (.one (.d _)) .nil)) (ok_laws_heldByteS (putProof aL aB aP) (mkB (putProof aL aB aP) 1) 1 (by omega) (by first | omega | (have := (by assumption); omega)) (by first | rfl | assumption | (repeat' (first | rfl | apply And.intro)))) (.inr rfl) rfl (by simp) rfl) ?_
   refine TL.cons rfl (Step.assign (p := (.one (.d (.int .i64 (1 + ((putProof aL aB aP).length : Int)))))) rfl rfl (lt_ok rfl) rfl) ?_
   refine TL.nil ?_
   refine T.seq ?_
   refine T.seq ?_
   refine T.region ?_
   refine TL.cons rfl (Step.move (p := (.one (.d (.int .i64 (1 + ((putProof aL aB aP).length : Int)))))) rfl rfl (lt_ok rfl) rfl) ?_
   refine TL.cons rfl (Step.bin rfl rfl (lt_ok rfl) rfl rfl (Bin.lss (k := .i64) (a := (1 + ((putProof aL aB aP).length : Int))) (b := 0))) ?_
   refine TL.known 121 (c := false) (decide_eq_false (by omega)) rfl ?_
   refine TL.nil ?_
   refine T.cond (b := false) rfl (fun h15_ => absurd h15_ (by simp)) (fun h15_ => ?_)
   refine T.skip ?_
   refine T.seq ?_
   refine T.seq ?_
   refine T.region ?_
   refine TL.cons rfl (Step.move (p := (.one (.d (.int .i64 (1 + ((putProof aL aB aP).length : Int)))))) rfl rfl (lt_ok rfl) rfl) ?_
   refine TL.cons rfl (Step.move (p := (.one (.d (.int .i64 (1 + ((putProof aL aB aP).length : Int)))))) rfl rfl (lt_ok rfl) rfl) ?_
   refine TL.cons rfl (Step.bin rfl rfl (lt_ok rfl) rfl rfl (Bin.neq (k := .i64) (a := (1 + ((putProof aL aB aP).length : Int))) (b := (1 + ((putProof aL aB aP).length : Int))))) ?_
   refine TL.known 124 (c := false) (by simp) rfl ?_
   refine TL.nil ?_
   refine T.cond (b := false) rfl (fun h16_ => absurd h16_ (by simp)) (fun h16_ => ?_)
   refine T.skip ?_
   refine T.seq ?_
   refine T.region ?_
   refine TL.cons rfl (Step.assign (p := (.one (.d (.bool true)))) rfl rfl (lt_ok rfl) rfl) ?_
   refine TL.nil ?_
   refine T.ret ?_
   exact ⟨[(false, [.d (.bool true)])], (.cons rfl .nil), rfl, [], (RetC.rd' (by rfl) .nil)⟩
end Go.Proofs.Ytlcmflenbddliaa.Rf
