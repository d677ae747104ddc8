/- The functions that FnCons calls, each held to what it answers. Printed by a program of this session; Lean checks it. -/
import Derived.Test.YtmdojlglemnijaaProg
import Derived.Test.YtmdojlglemnijaaRFnConsx0
namespace Go.Proofs.Ytmdojlglemnijaa.Rf
open Go.RowKit
set_option linter.unusedVariables false
set_option linter.unnecessarySimpa false
set_option linter.unusedSimpArgs false
set_option maxRecDepth 100000
set_option maxHeartbeats 4000000
theorem ok_impl_consRoots_r (d_ : Nat) : ∀ (m : Int) (n : Int) (old : List Int) (proof : List (List Int)) (known : Bool) (hd_ : n.toNat = d_) (h0_ : 1 ≤ m ∧ m ≤ n ∧ n ≤ 1048576) (h1_ : (proof.length : Int) = cLen m n known) (h2_ : U8s old) (h3_ : ∀ y ∈ proof, U8s y) (h4_ : ∀ y ∈ proof, y.length ≤ 1048576) (h5_ : old.length ≤ 1048576), RO Try.prog 56 [.one (.int .i64 m), .one (.int .i64 n), .one (.ints .u8 old), .one (.bss proof), .one (.bool known)] [(false, [.own 5 (.ints .u8 (cRoots m n old proof known).1)]), (false, [.own 5 (.ints .u8 (cRoots m n old proof known).2)])] := by
 refine Nat.strongRecOn d_ ?_
 intro d_ ih m n old proof known hd_ h0_ h1_ h2_ h3_ h4_ h5_
 subst hd_
 refine RO.intro Try.func56 rfl 78 rfl (le_ok rfl) fun w Z => ?_
 refine T.bnd 2 0 rfl rfl fun hb_2_0 => ?_
 simp only [D.size, List.length_map] at hb_2_0
 refine T.bnd 3 0 rfl rfl fun hb_3_0 => ?_
 simp only [D.size, List.length_map] at hb_3_0
 have hsb_ := splitAtT_bd n
 have hcl_ := @cLen_left m n known
 have hcr_ := @cLen_right m n known
 have hce_ := @cLen_eq m n known
 have hfk_ : known = false → flag (!known) = 1 := fun h => by rw [h]; rfl
 have hbl_ := cLen_bd (splitAtT n).toNat m (splitAtT n) known (by omega)
 have hbr_ := cLen_bd (n - splitAtT n).toNat (m - splitAtT n) (n - splitAtT n) false (by omega)
 have hpp_ := pre_len proof
 have hy_ := mem_len h4_ ((proof.length : Int) - 1).toNat
 have hy0_ := mem_len h4_ 0
 refine T.seq ?_
 refine T.region ?_
 refine TL.as (.one (.nil)) ?_
 refine TL.as (.one (.nil)) ?_
 refine TL.nil ?_
 refine T.seq ?_
 refine T.seq ?_
 refine T.region ?_
 refine TL.mv (pI m) ?_
 refine TL.mv (pI n) ?_
 refine TL.b _ (Bin.eql (k := .i64) (a := m) (b := n)) ?_
 refine TL.nil ?_
 refine T.ci rfl (fun h1 => ?_) (fun h1 => ?_)
 ·
  refine T.seq ?_
  refine T.seq ?_
  refine T.region ?_
  refine TL.mv (pB known) ?_
  refine TL.c (Step.not (b := known) rfl rfl (lt_ok rfl) rfl) ?_
  refine TL.nil ?_
  refine T.cn rfl (fun h2 => ?_) (fun h2 => ?_)
  ·
   refine T.region ?_
   refine TL.mv (.one (.d (.bss proof))) ?_
   refine TL.c (Step.index (e := 22) (z := 1) (i := 0) rfl rfl (lt_ok rfl) (by kernel_rfl) rfl rfl rfl (lt_ok rfl) rfl (by first | omega | (simp; omega) | (have := hcl_ (by omega) (by omega) (by omega); omega) | (have := hcr_ (by omega) (by omega) (by omega); omega) | (have := hce_ (by omega); have := hfk_ (by assumption); omega)) (by simp only [D.size]; first | omega | (simp; omega) | (have := hcl_ (by omega) (by omega) (by omega); omega) | (have := hcr_ (by omega) (by omega) (by omega); omega) | (have := hce_ (by omega); have := hfk_ (by assumption); omega))) ?_
   refine TL.c (Step.load (e := (.ints .u8 (proof.getD 0 []))) rfl rfl (lt_ok rfl) (by kernel_rfl) rfl rfl) ?_
   refine TL.as (pS (proof.getD 0 [])) ?_
   refine TL.nil ?_
   refine T.seq ?_
   refine T.region ?_
   refine TL.mv (pS (proof.getD 0 [])) ?_
   refine TL.c (Step.cl (xs := [.tmp 27]) (ps := [(pS (proof.getD 0 []))]) (g := .func 88) false (.cons (.one (.d _)) .nil) (ok_impl_copyBytes (proof.getD 0 []) (by first | omega | assumption | (simp only [List.length_take, List.length_drop]; omega)))) ?_
   refine TL.mv (pS (proof.getD 0 [])) ?_
   refine TL.c (Step.cl (xs := [.tmp 29]) (ps := [(pS (proof.getD 0 []))]) (g := .func 88) false (.cons (.one (.d _)) .nil) (ok_impl_copyBytes (proof.getD 0 []) (by first | omega | assumption | (simp only [List.length_take, List.length_drop]; omega)))) ?_
   refine TL.as (.one (.row 1028 [])) ?_
   refine TL.as (.one (.row 1030 [])) ?_
   refine TL.nil ?_
   refine T.ret ?_
   refine ⟨[(false, [.row 1028 []]), (false, [.row 1030 []])], (.cons rfl (.cons rfl .nil)), rfl, [1028, 1030], (RetC.o ?_ (RetC.o ?_ .nil))⟩ <;> ((congr 1; first | (rw [cRoots_known (m := m) (n := n) (old := old) (proof := proof) (by omega) (by assumption)]; done) | (rw [cRoots_new (m := m) (n := n) (old := old) (proof := proof) (by omega) (by assumption)]; done) | (rw [cRoots_left (m := m) (n := n) (old := old) (proof := proof) (by omega) (by omega) (by omega)]; done) | (rw [cRoots_right (m := m) (n := n) (old := old) (proof := proof) (by omega) (by omega) (by omega)]; done)))
  refine T.skip ?_
  refine T.seq ?_
  refine T.region ?_
  refine TL.mv (pS old) ?_
  refine TL.c (Step.cl (xs := [.tmp 27]) (ps := [(pS old)]) (g := .func 88) false (.cons (.one (.d _)) .nil) (ok_impl_copyBytes old (by first | omega | assumption | (simp only [List.length_take, List.length_drop]; omega)))) ?_
  refine TL.mv (pS old) ?_
  refine TL.c (Step.cl (xs := [.tmp 29]) (ps := [(pS old)]) (g := .func 88) false (.cons (.one (.d _)) .nil) (ok_impl_copyBytes old (by first | omega | assumption | (simp only [List.length_take, List.length_drop]; omega)))) ?_
  refine TL.as (.one (.row 1028 [])) ?_
  refine TL.as (.one (.row 1030 [])) ?_
  refine TL.nil ?_
  refine T.ret ?_
  refine ⟨[(false, [.row 1028 []]), (false, [.row 1030 []])], (.cons rfl (.cons rfl .nil)), rfl, [1028, 1030], (RetC.o ?_ (RetC.o ?_ .nil))⟩ <;> ((congr 1; first | (rw [cRoots_known (m := m) (n := n) (old := old) (proof := proof) (by omega) (by assumption)]; done) | (rw [cRoots_new (m := m) (n := n) (old := old) (proof := proof) (by omega) (by assumption)]; done) | (rw [cRoots_left (m := m) (n := n) (old := old) (proof := proof) (by omega) (by omega) (by omega)]; done) | (rw [cRoots_right (m := m) (n := n) (old := old) (proof := proof) (by omega) (by omega) (by omega)]; done)))
 refine T.skip ?_
 refine T.seq ?_
 refine T.region ?_
 refine TL.mv (pI n) ?_
 have nn3 := splitAtT_bd n
 refine TL.c (Step.cl (xs := [.tmp 31]) (ps := [(pI n)]) (g := .func 50) false (.cons (.one (.d _)) .nil) (ok_impl_SplitAt n (by first | omega | assumption | (simp only [List.length_append] at *; omega)))) ?_
 refine TL.mv (.one (.d (.bss proof))) ?_
 refine TL.c (Step.len (e := 22) (z := 1) (d := (.bss proof)) rfl rfl (lt_ok rfl) (by kernel_rfl) rfl rfl) ?_
 refine TL.c (Step.bin (r := .int .i64 ((proof.length : Int) - 1)) rfl rfl (lt_ok rfl) rfl rfl (Bin.sub (a := (proof.length : Int)) (b := 1) (by first | exact wrap_ok (by first | omega | (simp; omega) | (have := hcl_ (by omega) (by omega) (by omega); omega) | (have := hcr_ (by omega) (by omega) (by omega); omega) | (have := hce_ (by omega); have := hfk_ (by assumption); omega)) (by first | omega | (simp; omega) | (have := hcl_ (by omega) (by omega) (by omega); omega) | (have := hcr_ (by omega) (by omega) (by omega); omega) | (have := hce_ (by omega); have := hfk_ (by assumption); omega)) | rfl))) ?_
 refine TL.as (pI (splitAtT n)) ?_
 refine TL.as (pI ((proof.length : Int) - 1)) ?_
 refine TL.nil ?_
 refine T.seq ?_
 refine T.region ?_
 refine TL.mv (.one (.d (.bss proof))) ?_
 refine TL.mv (pI ((proof.length : Int) - 1)) ?_
 refine TL.c (Step.index (e := 22) (z := 1) (i := ((proof.length : Int) - 1)) rfl rfl (lt_ok rfl) (by kernel_rfl) rfl rfl rfl (lt_ok rfl) rfl (by first | omega | (simp; omega) | (have := hcl_ (by omega) (by omega) (by omega); omega) | (have := hcr_ (by omega) (by omega) (by omega); omega) | (have := hce_ (by omega); have := hfk_ (by assumption); omega)) (by simp only [D.size]; first | omega | (simp; omega) | (have := hcl_ (by omega) (by omega) (by omega); omega) | (have := hcr_ (by omega) (by omega) (by omega); omega) | (have := hce_ (by omega); have := hfk_ (by assumption); omega))) ?_
 refine TL.c (Step.load (e := (.ints .u8 (proof.getD ((proof.length : Int) - 1).toNat []))) rfl rfl (lt_ok rfl) (by kernel_rfl) rfl rfl) ?_
 refine TL.as (pS (proof.getD ((proof.length : Int) - 1).toNat [])) ?_
 refine TL.nil ?_
 refine T.seq ?_
 refine T.seq ?_
 refine T.region ?_
 refine TL.mv (pI m) ?_
 refine TL.mv (pI (splitAtT n)) ?_
 refine TL.b _ (Bin.leq (k := .i64) (a := m) (b := (splitAtT n))) ?_
 refine TL.nil ?_
 refine T.ci rfl (fun h4 => ?_) (fun h4 => ?_)
 ·
  refine T.seq ?_
  refine T.region ?_
  refine TL.mv (pI m) ?_
  refine TL.mv (pI (splitAtT n)) ?_
  refine TL.mv (pS old) ?_
  refine TL.mv (.one (.d (.bss proof))) ?_
  refine TL.mv (pI ((proof.length : Int) - 1)) ?_
  refine TL.c (Step.slice (e := 22) (z := 1) (l := 0) (h := ((proof.length : Int) - 1).toNat) rfl rfl (lt_ok rfl) (by kernel_rfl) rfl rfl rfl (.none _) ((.some (i := ((proof.length : Int) - 1)) rfl (by first | omega | (simp; omega) | (have := hcl_ (by omega) (by omega) (by omega); omega) | (have := hcr_ (by omega) (by omega) (by omega); omega) | (have := hce_ (by omega); have := hfk_ (by assumption); omega)))) (by first | omega | (simp; omega) | (have := hcl_ (by omega) (by omega) (by omega); omega) | (have := hcr_ (by omega) (by omega) (by omega); omega) | (have := hce_ (by omega); have := hfk_ (by assumption); omega)) (by simp only [D.size]; first | omega | (simp; omega) | (have := hcl_ (by omega) (by omega) (by omega); omega) | (have := hcr_ (by omega) (by omega) (by omega); omega) | (have := hce_ (by omega); have := hfk_ (by assumption); omega)) rfl) ?_
  refine TL.mv (pB known) ?_
  have nn5 := @cRoots_len m (splitAtT n) old ((proof.drop 0).take (((proof.length : Int) - 1).toNat - 0)) known (by first | assumption | omega) (by first | assumption | exact mem_sub (by assumption) _ _ | exact s0.2)
  have nn6 := (@cRoots_u8 m (splitAtT n) old ((proof.drop 0).take (((proof.length : Int) - 1).toNat - 0)) known (by first | assumption | skip) (by first | assumption | exact mem_sub (by assumption) _ _ | exact s0.2)).1
  have nn7 := (@cRoots_u8 m (splitAtT n) old ((proof.drop 0).take (((proof.length : Int) - 1).toNat - 0)) known (by first | assumption | skip) (by first | assumption | exact mem_sub (by assumption) _ _ | exact s0.2)).2
  refine TL.c (Step.call (f := 56) (xs := [.tmp 44, .tmp 45, .tmp 46, .tmp 49, .tmp 50]) (ps := [(pI m), (pI (splitAtT n)), (pS old), (.one (.d (.bss ((proof.drop 0).take (((proof.length : Int) - 1).toNat - 0))))), (pB known)]) false (g := .func 56) rfl rfl (lt_ok rfl) rfl (by kernel_rfl) rfl (.cons (.one (.d _)) (.cons (.one (.d _)) (.cons (.one (.d _)) (.cons (.one (.d _)) (.cons (.one (.d _)) .nil))))) (ih (splitAtT n).toNat (by omega) m (splitAtT n) old ((proof.drop 0).take (((proof.length : Int) - 1).toNat - 0)) known rfl (by first | assumption | omega | exact of_decide_eq_true ‹sizesOk _ _ = true›) (by first | assumption | omega | (rw [← consLenT_yes (of_decide_eq_true ‹sizesOk _ _ = true›)]; omega) | (have := hcl_ (by omega) (by omega) (by omega); omega) | (have := hcr_ (by omega) (by omega) (by omega); omega)) (by first | assumption | exact sha_u8 _ | exact treeRoot_u8 _ | exact nodeHash_u8 _ _ | exact leafHash_u8 _ | exact u8_cons (by decide) (by assumption) | exact mem_getD (p := U8s) (by assumption) (by omega) | exact u8_app (u8_cons (by decide) (by assumption)) (by assumption) | exact fun x hx => by cases hx) (by first | assumption | exact mem_sub (by assumption) _ _ | exact s0.2) (by first | assumption | exact mem_sub (by assumption) _ _ | exact s0.2) (by first | omega | assumption | (simp only [List.length_append] at *; omega))) (.inr rfl) rfl (by simp) rfl) ?_
  refine TL.mv (.tup [(false, [.row 1051 []]), (false, [.row 2051 []])]) ?_
  refine TL.c (Step.extract (p := (.one (.row 1051 []))) rfl rfl (lt_ok rfl) rfl rfl) ?_
  refine TL.c (Step.extract (p := (.one (.row 2051 []))) rfl rfl (lt_ok rfl) rfl rfl) ?_
  refine TL.as (.one (.row 1051 [])) ?_
  refine TL.as (.one (.row 2051 [])) ?_
  refine TL.nil ?_
  refine T.seq ?_
  refine T.region ?_
  refine TL.mv (.one (.row 1051 [])) ?_
  refine TL.mv (.one (.row 2051 [])) ?_
  refine TL.mv (pS (proof.getD ((proof.length : Int) - 1).toNat [])) ?_
  have nn8 := nodeHash_len (cRoots m (splitAtT n) old ((proof.drop 0).take (((proof.length : Int) - 1).toNat - 0)) known).2 (proof.getD ((proof.length : Int) - 1).toNat [])
  have nn9 := nodeHash_u8 (cRoots m (splitAtT n) old ((proof.drop 0).take (((proof.length : Int) - 1).toNat - 0)) known).2 (proof.getD ((proof.length : Int) - 1).toNat [])
  refine TL.c (Step.cl (xs := [.tmp 55, .tmp 56]) (ps := [(.one (.row 2051 [])), (pS (proof.getD ((proof.length : Int) - 1).toNat []))]) (g := .func 51) false (.cons (.one (.row rfl rfl rfl rfl)) (.cons (.one (.d _)) .nil)) (ok_impl_NodeHash (cRoots m (splitAtT n) old ((proof.drop 0).take (((proof.length : Int) - 1).toNat - 0)) known).2 (proof.getD ((proof.length : Int) - 1).toNat []) (by first | assumption | exact sha_u8 _ | exact treeRoot_u8 _ | exact nodeHash_u8 _ _ | exact leafHash_u8 _ | exact u8_cons (by decide) (by assumption) | exact mem_getD (p := U8s) (by assumption) (by omega) | exact u8_app (u8_cons (by decide) (by assumption)) (by assumption) | exact fun x hx => by cases hx) (by first | assumption | exact sha_u8 _ | exact treeRoot_u8 _ | exact nodeHash_u8 _ _ | exact leafHash_u8 _ | exact u8_cons (by decide) (by assumption) | exact mem_getD (p := U8s) (by assumption) (by omega) | exact u8_app (u8_cons (by decide) (by assumption)) (by assumption) | exact fun x hx => by cases hx) (by first | omega | assumption | (simp only [List.length_append] at *; omega)) (by first | omega | assumption | (simp only [List.length_append] at *; omega)))) ?_
  refine TL.as (.one (.row 1051 [])) ?_
  refine TL.as (.one (.row 1057 [])) ?_
  refine TL.nil ?_
  refine T.ret ?_
  refine ⟨[(false, [.row 1051 []]), (false, [.row 1057 []])], (.cons rfl (.cons rfl .nil)), rfl, [1051, 1057], (RetC.o ?_ (RetC.o ?_ .nil))⟩ <;> ((congr 1; first | (rw [cRoots_known (m := m) (n := n) (old := old) (proof := proof) (by omega) (by assumption)]; done) | (rw [cRoots_new (m := m) (n := n) (old := old) (proof := proof) (by omega) (by assumption)]; done) | (rw [cRoots_left (m := m) (n := n) (old := old) (proof := proof) (by omega) (by omega) (by omega)]; done) | (rw [cRoots_right (m := m) (n := n) (old := old) (proof := proof) (by omega) (by omega) (by omega)]; done)))
 refine T.skip ?_
 refine T.seq ?_
 refine T.region ?_
 refine TL.mv (pI m) ?_
 refine TL.mv (pI (splitAtT n)) ?_
 refine TL.c (Step.bin (r := .int .i64 (m - (splitAtT n))) rfl rfl (lt_ok rfl) rfl rfl (Bin.sub (a := m) (b := (splitAtT n)) (by first | exact wrap_ok (by first | omega | (simp; omega) | (have := hcl_ (by omega) (by omega) (by omega); omega) | (have := hcr_ (by omega) (by omega) (by omega); omega) | (have := hce_ (by omega); have := hfk_ (by assumption); omega)) (by first | omega | (simp; omega) | (have := hcl_ (by omega) (by omega) (by omega); omega) | (have := hcr_ (by omega) (by omega) (by omega); omega) | (have := hce_ (by omega); have := hfk_ (by assumption); omega)) | rfl))) ?_
 refine TL.mv (pI n) ?_
 refine TL.mv (pI (splitAtT n)) ?_
 refine TL.c (Step.bin (r := .int .i64 (n - (splitAtT n))) rfl rfl (lt_ok rfl) rfl rfl (Bin.sub (a := n) (b := (splitAtT n)) (by first | exact wrap_ok (by first | omega | (simp; omega) | (have := hcl_ (by omega) (by omega) (by omega); omega) | (have := hcr_ (by omega) (by omega) (by omega); omega) | (have := hce_ (by omega); have := hfk_ (by assumption); omega)) (by first | omega | (simp; omega) | (have := hcl_ (by omega) (by omega) (by omega); omega) | (have := hcr_ (by omega) (by omega) (by omega); omega) | (have := hce_ (by omega); have := hfk_ (by assumption); omega)) | rfl))) ?_
 refine TL.mv (pS old) ?_
 refine TL.mv (.one (.d (.bss proof))) ?_
 refine TL.mv (pI ((proof.length : Int) - 1)) ?_
 refine TL.c (Step.slice (e := 22) (z := 1) (l := 0) (h := ((proof.length : Int) - 1).toNat) rfl rfl (lt_ok rfl) (by kernel_rfl) rfl rfl rfl (.none _) ((.some (i := ((proof.length : Int) - 1)) rfl (by first | omega | (simp; omega) | (have := hcl_ (by omega) (by omega) (by omega); omega) | (have := hcr_ (by omega) (by omega) (by omega); omega) | (have := hce_ (by omega); have := hfk_ (by assumption); omega)))) (by first | omega | (simp; omega) | (have := hcl_ (by omega) (by omega) (by omega); omega) | (have := hcr_ (by omega) (by omega) (by omega); omega) | (have := hce_ (by omega); have := hfk_ (by assumption); omega)) (by simp only [D.size]; first | omega | (simp; omega) | (have := hcl_ (by omega) (by omega) (by omega); omega) | (have := hcr_ (by omega) (by omega) (by omega); omega) | (have := hce_ (by omega); have := hfk_ (by assumption); omega)) rfl) ?_
 have nn10 := @cRoots_len (m - (splitAtT n)) (n - (splitAtT n)) old ((proof.drop 0).take (((proof.length : Int) - 1).toNat - 0)) false (by first | assumption | omega) (by first | assumption | exact mem_sub (by assumption) _ _ | exact s0.2)
 have nn11 := (@cRoots_u8 (m - (splitAtT n)) (n - (splitAtT n)) old ((proof.drop 0).take (((proof.length : Int) - 1).toNat - 0)) false (by first | assumption | skip) (by first | assumption | exact mem_sub (by assumption) _ _ | exact s0.2)).1
 have nn12 := (@cRoots_u8 (m - (splitAtT n)) (n - (splitAtT n)) old ((proof.drop 0).take (((proof.length : Int) - 1).toNat - 0)) false (by first | assumption | skip) (by first | assumption | exact mem_sub (by assumption) _ _ | exact s0.2)).2
 refine TL.c (Step.call (f := 56) (xs := [.tmp 61, .tmp 64, .tmp 65, .tmp 68, .const (.bool false)]) (ps := [(pI (m - (splitAtT n))), (pI (n - (splitAtT n))), (pS old), (.one (.d (.bss ((proof.drop 0).take (((proof.length : Int) - 1).toNat - 0))))), (pB false)]) false (g := .func 56) rfl rfl (lt_ok rfl) rfl (by kernel_rfl) rfl (.cons (.one (.d _)) (.cons (.one (.d _)) (.cons (.one (.d _)) (.cons (.one (.d _)) (.cons (.one (.d _)) .nil))))) (ih (n - (splitAtT n)).toNat (by omega) (m - (splitAtT n)) (n - (splitAtT n)) old ((proof.drop 0).take (((proof.length : Int) - 1).toNat - 0)) false rfl (by first | assumption | omega | exact of_decide_eq_true ‹sizesOk _ _ = true›) (by first | assumption | omega | (rw [← consLenT_yes (of_decide_eq_true ‹sizesOk _ _ = true›)]; omega) | (have := hcl_ (by omega) (by omega) (by omega); omega) | (have := hcr_ (by omega) (by omega) (by omega); omega)) (by first | assumption | exact sha_u8 _ | exact treeRoot_u8 _ | exact nodeHash_u8 _ _ | exact leafHash_u8 _ | exact u8_cons (by decide) (by assumption) | exact mem_getD (p := U8s) (by assumption) (by omega) | exact u8_app (u8_cons (by decide) (by assumption)) (by assumption) | exact fun x hx => by cases hx) (by first | assumption | exact mem_sub (by assumption) _ _ | exact s0.2) (by first | assumption | exact mem_sub (by assumption) _ _ | exact s0.2) (by first | omega | assumption | (simp only [List.length_append] at *; omega))) (.inr rfl) rfl (by simp) rfl) ?_
 refine TL.mv (.tup [(false, [.row 1069 []]), (false, [.row 2069 []])]) ?_
 refine TL.c (Step.extract (p := (.one (.row 1069 []))) rfl rfl (lt_ok rfl) rfl rfl) ?_
 refine TL.c (Step.extract (p := (.one (.row 2069 []))) rfl rfl (lt_ok rfl) rfl rfl) ?_
 refine TL.as (.one (.row 1069 [])) ?_
 refine TL.as (.one (.row 2069 [])) ?_
 refine TL.nil ?_
 refine T.seq ?_
 refine T.region ?_
 refine TL.mv (pS (proof.getD ((proof.length : Int) - 1).toNat [])) ?_
 refine TL.mv (.one (.row 1069 [])) ?_
 have nn13 := nodeHash_len (proof.getD ((proof.length : Int) - 1).toNat []) (cRoots (m - (splitAtT n)) (n - (splitAtT n)) old ((proof.drop 0).take (((proof.length : Int) - 1).toNat - 0)) false).1
 have nn14 := nodeHash_u8 (proof.getD ((proof.length : Int) - 1).toNat []) (cRoots (m - (splitAtT n)) (n - (splitAtT n)) old ((proof.drop 0).take (((proof.length : Int) - 1).toNat - 0)) false).1
 refine TL.c (Step.cl (xs := [.tmp 72, .tmp 73]) (ps := [(pS (proof.getD ((proof.length : Int) - 1).toNat [])), (.one (.row 1069 []))]) (g := .func 51) false (.cons (.one (.d _)) (.cons (.one (.row rfl rfl rfl rfl)) .nil)) (ok_impl_NodeHash (proof.getD ((proof.length : Int) - 1).toNat []) (cRoots (m - (splitAtT n)) (n - (splitAtT n)) old ((proof.drop 0).take (((proof.length : Int) - 1).toNat - 0)) false).1 (by first | assumption | exact sha_u8 _ | exact treeRoot_u8 _ | exact nodeHash_u8 _ _ | exact leafHash_u8 _ | exact u8_cons (by decide) (by assumption) | exact mem_getD (p := U8s) (by assumption) (by omega) | exact u8_app (u8_cons (by decide) (by assumption)) (by assumption) | exact fun x hx => by cases hx) (by first | assumption | exact sha_u8 _ | exact treeRoot_u8 _ | exact nodeHash_u8 _ _ | exact leafHash_u8 _ | exact u8_cons (by decide) (by assumption) | exact mem_getD (p := U8s) (by assumption) (by omega) | exact u8_app (u8_cons (by decide) (by assumption)) (by assumption) | exact fun x hx => by cases hx) (by first | omega | assumption | (simp only [List.length_append] at *; omega)) (by first | omega | assumption | (simp only [List.length_append] at *; omega)))) ?_
 refine TL.mv (pS (proof.getD ((proof.length : Int) - 1).toNat [])) ?_
 refine TL.mv (.one (.row 2069 [])) ?_
 have nn15 := nodeHash_len (proof.getD ((proof.length : Int) - 1).toNat []) (cRoots (m - (splitAtT n)) (n - (splitAtT n)) old ((proof.drop 0).take (((proof.length : Int) - 1).toNat - 0)) false).2
 have nn16 := nodeHash_u8 (proof.getD ((proof.length : Int) - 1).toNat []) (cRoots (m - (splitAtT n)) (n - (splitAtT n)) old ((proof.drop 0).take (((proof.length : Int) - 1).toNat - 0)) false).2
 refine TL.c (Step.cl (xs := [.tmp 75, .tmp 76]) (ps := [(pS (proof.getD ((proof.length : Int) - 1).toNat [])), (.one (.row 2069 []))]) (g := .func 51) false (.cons (.one (.d _)) (.cons (.one (.row rfl rfl rfl rfl)) .nil)) (ok_impl_NodeHash (proof.getD ((proof.length : Int) - 1).toNat []) (cRoots (m - (splitAtT n)) (n - (splitAtT n)) old ((proof.drop 0).take (((proof.length : Int) - 1).toNat - 0)) false).2 (by first | assumption | exact sha_u8 _ | exact treeRoot_u8 _ | exact nodeHash_u8 _ _ | exact leafHash_u8 _ | exact u8_cons (by decide) (by assumption) | exact mem_getD (p := U8s) (by assumption) (by omega) | exact u8_app (u8_cons (by decide) (by assumption)) (by assumption) | exact fun x hx => by cases hx) (by first | assumption | exact sha_u8 _ | exact treeRoot_u8 _ | exact nodeHash_u8 _ _ | exact leafHash_u8 _ | exact u8_cons (by decide) (by assumption) | exact mem_getD (p := U8s) (by assumption) (by omega) | exact u8_app (u8_cons (by decide) (by assumption)) (by assumption) | exact fun x hx => by cases hx) (by first | omega | assumption | (simp only [List.length_append] at *; omega)) (by first | omega | assumption | (simp only [List.length_append] at *; omega)))) ?_
 refine TL.as (.one (.row 1074 [])) ?_
 refine TL.as (.one (.row 1077 [])) ?_
 refine TL.nil ?_
 refine T.ret ?_
 refine ⟨[(false, [.row 1074 []]), (false, [.row 1077 []])], (.cons rfl (.cons rfl .nil)), rfl, [1074, 1077], (RetC.o ?_ (RetC.o ?_ .nil))⟩ <;> ((congr 1; first | (rw [cRoots_known (m := m) (n := n) (old := old) (proof := proof) (by omega) (by assumption)]; done) | (rw [cRoots_new (m := m) (n := n) (old := old) (proof := proof) (by omega) (by assumption)]; done) | (rw [cRoots_left (m := m) (n := n) (old := old) (proof := proof) (by omega) (by omega) (by omega)]; done) | (rw [cRoots_right (m := m) (n := n) (old := old) (proof := proof) (by omega) (by omega) (by omega)]; done)))
theorem ok_impl_consRoots (m : Int) (n : Int) (old : List Int) (proof : List (List Int)) (known : Bool) (h0_ : 1 ≤ m ∧ m ≤ n ∧ n ≤ 1048576) (h1_ : (proof.length : Int) = cLen m n known) (h2_ : U8s old) (h3_ : ∀ y ∈ proof, U8s y) (h4_ : ∀ y ∈ proof, y.length ≤ 1048576) (h5_ : old.length ≤ 1048576) : RO Try.prog 56 [.one (.int .i64 m), .one (.int .i64 n), .one (.ints .u8 old), .one (.bss proof), .one (.bool known)] [(false, [.own 5 (.ints .u8 (cRoots m n old proof known).1)]), (false, [.own 5 (.ints .u8 (cRoots m n old proof known).2)])] := ok_impl_consRoots_r _ m n old proof known rfl h0_ h1_ h2_ h3_ h4_ h5_
theorem ok_impl_ConsRoots (m : Int) (n : Int) (old : List Int) (proof : List (List Int)) (h0_ : U8s old) (h1_ : ∀ y ∈ proof, U8s y) (h2_ : ∀ y ∈ proof, y.length ≤ 1048576) (h3_ : old.length ≤ 1048576) : RO Try.prog 15 [.one (.int .i64 m), .one (.int .i64 n), .one (.ints .u8 old), .one (.bss proof)] [(false, [.own 5 (.ints .u8 (consRootsT m n old proof).1)]), (false, [.own 5 (.ints .u8 (consRootsT m n old proof).2)]), (false, [.rd (.bool (consFits m n old proof))])] := by
 refine RO.intro Try.func15 rfl 46 rfl (le_ok rfl) fun w Z => ?_
 refine T.bnd 2 0 rfl rfl fun hb_2_0 => ?_
 simp only [D.size, List.length_map] at hb_2_0
 refine T.bnd 3 0 rfl rfl fun hb_3_0 => ?_
 simp only [D.size, List.length_map] at hb_3_0
 have hz_ : sizesOk m n = true → 1 ≤ m ∧ m ≤ n ∧ n ≤ 1048576 := of_decide_eq_true
 have hcy_ := @consLenT_yes m n
 refine T.seq ?_
 refine T.region ?_
 refine TL.as (.one (.nil)) ?_
 refine TL.as (.one (.nil)) ?_
 refine TL.as (pB false) ?_
 refine TL.nil ?_
 refine T.seq ?_
 refine T.seq ?_
 refine T.region ?_
 refine TL.mv (pI m) ?_
 refine TL.mv (pI n) ?_
 refine TL.c (Step.cl (xs := [.tmp 13, .tmp 14]) (ps := [(pI m), (pI n)]) (g := .func 54) false (.cons (.one (.d _)) (.cons (.one (.d _)) .nil)) (ok_impl_areSizes m n)) ?_
 refine TL.c (Step.not (b := (sizesOk m n)) rfl rfl (lt_ok rfl) rfl) ?_
 refine TL.mv (pB (!(sizesOk m n))) ?_
 rcases Bool.eq_false_or_eq_true (!(sizesOk m n)) with hb1 | hb1
 ·
  refine TL.known 17 hb1 rfl ?_
  have hb1' := hb1
  replace hb1' : (sizesOk m n) = false := by simpa only [Bool.not_eq_true', Bool.not_eq_false'] using hb1'
  refine TL.gf 17 ?_
  refine TL.gf 17 ?_
  refine TL.gf 17 ?_
  refine TL.gf 17 ?_
  refine TL.pk true (pB true) ?_
  refine TL.mv (pB true) ?_
  refine TL.gf 23 ?_
  refine TL.gf 23 ?_
  refine TL.gf 23 ?_
  refine TL.gf 23 ?_
  refine TL.gf 23 ?_
  refine TL.gf 23 ?_
  refine TL.pk true (pB true) ?_
  refine TL.mv (pB true) ?_
  refine TL.gf 31 ?_
  refine TL.gf 31 ?_
  refine TL.gf 31 ?_
  refine TL.pk true (pB true) ?_
  refine TL.nil ?_
  refine T.ct ?_
  refine T.seq ?_
  refine T.region ?_
  refine TL.as (.one (.nil)) ?_
  refine TL.as (.one (.nil)) ?_
  refine TL.as (pB false) ?_
  refine TL.nil ?_
  refine T.ret ?_
  refine ⟨[(false, [.nil]), (false, [.nil]), (false, [.d (.bool false)])], (.cons rfl (.cons rfl (.cons rfl .nil))), rfl, [], (RetC.nn ?_ (RetC.nn ?_ (RetC.r ?_ .nil)))⟩ <;> (first | (show (consRootsT m n old proof).1.length = 0; rw [consRootsT_no (Bool.eq_false_iff.2 fun hq_ => by obtain ⟨q1_, q2_, q3_, q4_⟩ := consFits_all hq_; first | omega | exact bool_ne q1_ (by assumption) | exact bool_ne q4_ (by assumption) | (have h_ := ‹hashes [old] = false›; rw [hashes_one] at h_; exact of_decide_eq_false h_ q2_) | (simp_all; done))]; rfl) | (show (consRootsT m n old proof).2.length = 0; rw [consRootsT_no (Bool.eq_false_iff.2 fun hq_ => by obtain ⟨q1_, q2_, q3_, q4_⟩ := consFits_all hq_; first | omega | exact bool_ne q1_ (by assumption) | exact bool_ne q4_ (by assumption) | (have h_ := ‹hashes [old] = false›; rw [hashes_one] at h_; exact of_decide_eq_false h_ q2_) | (simp_all; done))]; rfl) | (congr 1; first | (rw [consRootsT_yes (consFits_mk (m := m) (n := n) (old := old) (proof := proof) (by assumption) (by first | omega | (have h_ := ‹hashes [old] = true›; rw [hashes_one] at h_; exact of_decide_eq_true h_)) (by omega) (by assumption))]; done) | (symm; exact (Bool.eq_false_iff.2 fun hq_ => by obtain ⟨q1_, q2_, q3_, q4_⟩ := consFits_all hq_; first | omega | exact bool_ne q1_ (by assumption) | exact bool_ne q4_ (by assumption) | (have h_ := ‹hashes [old] = false›; rw [hashes_one] at h_; exact of_decide_eq_false h_ q2_) | (simp_all; done))) | (symm; exact (consFits_mk (m := m) (n := n) (old := old) (proof := proof) (by assumption) (by first | omega | (have h_ := ‹hashes [old] = true›; rw [hashes_one] at h_; exact of_decide_eq_true h_)) (by omega) (by assumption)))))
 refine TL.known 17 hb1 rfl ?_
 have hb1' := hb1
 replace hb1' : (sizesOk m n) = true := by simpa only [Bool.not_eq_true', Bool.not_eq_false'] using hb1'
 refine TL.gm 17 (pS old) ?_
 refine TL.gy 17 (Step.lit_d (e := 22) (z := 1) (by_ := 24) (xs := [.tmp 18]) (pss := [[cS old]]) (ds := [(.ints .u8 old)]) (d := (.bss [old])) rfl rfl (lt_ok rfl) (by kernel_rfl) rfl rfl (.cons rfl .nil) (by simp) (le_ok rfl) (le_ok rfl) rfl rfl trivial rfl rfl) ?_
 refine TL.gy 17 (Step.cl (xs := [.tmp 19]) (ps := [(.one (.d (.bss [old])))]) (g := .func 55) false (.cons (.one (.d _)) .nil) (ok_impl_areHashes [old])) ?_
 refine TL.gy 17 (Step.not (b := (hashes [old])) rfl rfl (lt_ok rfl) rfl) ?_
 refine TL.pk false (pB (!(hashes [old]))) ?_
 refine TL.mv (pB (!(hashes [old]))) ?_
 rcases Bool.eq_false_or_eq_true (!(hashes [old])) with hb2 | hb2
 ·
  refine TL.known 23 hb2 rfl ?_
  have hb2' := hb2
  replace hb2' : (hashes [old]) = false := by simpa only [Bool.not_eq_true', Bool.not_eq_false'] using hb2'
  refine TL.gf 23 ?_
  refine TL.gf 23 ?_
  refine TL.gf 23 ?_
  refine TL.gf 23 ?_
  refine TL.gf 23 ?_
  refine TL.gf 23 ?_
  refine TL.pk true (pB true) ?_
  refine TL.mv (pB true) ?_
  refine TL.gf 31 ?_
  refine TL.gf 31 ?_
  refine TL.gf 31 ?_
  refine TL.pk true (pB true) ?_
  refine TL.nil ?_
  refine T.ct ?_
  refine T.seq ?_
  refine T.region ?_
  refine TL.as (.one (.nil)) ?_
  refine TL.as (.one (.nil)) ?_
  refine TL.as (pB false) ?_
  refine TL.nil ?_
  refine T.ret ?_
  refine ⟨[(false, [.nil]), (false, [.nil]), (false, [.d (.bool false)])], (.cons rfl (.cons rfl (.cons rfl .nil))), rfl, [], (RetC.nn ?_ (RetC.nn ?_ (RetC.r ?_ .nil)))⟩ <;> (first | (show (consRootsT m n old proof).1.length = 0; rw [consRootsT_no (Bool.eq_false_iff.2 fun hq_ => by obtain ⟨q1_, q2_, q3_, q4_⟩ := consFits_all hq_; first | omega | exact bool_ne q1_ (by assumption) | exact bool_ne q4_ (by assumption) | (have h_ := ‹hashes [old] = false›; rw [hashes_one] at h_; exact of_decide_eq_false h_ q2_) | (simp_all; done))]; rfl) | (show (consRootsT m n old proof).2.length = 0; rw [consRootsT_no (Bool.eq_false_iff.2 fun hq_ => by obtain ⟨q1_, q2_, q3_, q4_⟩ := consFits_all hq_; first | omega | exact bool_ne q1_ (by assumption) | exact bool_ne q4_ (by assumption) | (have h_ := ‹hashes [old] = false›; rw [hashes_one] at h_; exact of_decide_eq_false h_ q2_) | (simp_all; done))]; rfl) | (congr 1; first | (rw [consRootsT_yes (consFits_mk (m := m) (n := n) (old := old) (proof := proof) (by assumption) (by first | omega | (have h_ := ‹hashes [old] = true›; rw [hashes_one] at h_; exact of_decide_eq_true h_)) (by omega) (by assumption))]; done) | (symm; exact (Bool.eq_false_iff.2 fun hq_ => by obtain ⟨q1_, q2_, q3_, q4_⟩ := consFits_all hq_; first | omega | exact bool_ne q1_ (by assumption) | exact bool_ne q4_ (by assumption) | (have h_ := ‹hashes [old] = false›; rw [hashes_one] at h_; exact of_decide_eq_false h_ q2_) | (simp_all; done))) | (symm; exact (consFits_mk (m := m) (n := n) (old := old) (proof := proof) (by assumption) (by first | omega | (have h_ := ‹hashes [old] = true›; rw [hashes_one] at h_; exact of_decide_eq_true h_)) (by omega) (by assumption)))))
 refine TL.known 23 hb2 rfl ?_
 have hb2' := hb2
 replace hb2' : (hashes [old]) = true := by simpa only [Bool.not_eq_true', Bool.not_eq_false'] using hb2'
 refine TL.gm 23 (.one (.d (.bss proof))) ?_
 refine TL.gy 23 (Step.len (e := 22) (z := 1) (d := (.bss proof)) rfl rfl (lt_ok rfl) (by kernel_rfl) rfl rfl) ?_
 refine TL.gm 23 (pI m) ?_
 refine TL.gm 23 (pI n) ?_
 refine TL.gy 23 (Step.cl (xs := [.tmp 26, .tmp 27]) (ps := [(pI m), (pI n)]) (g := .func 16) false (.cons (.one (.d _)) (.cons (.one (.d _)) .nil)) (ok_impl_ConsLen m n)) ?_
 refine TL.gy 23 (Step.bin rfl rfl (lt_ok rfl) rfl rfl (Bin.neq (k := .i64) (a := (proof.length : Int)) (b := (consLenT m n)))) ?_
 refine TL.pk false (pB (decide ((proof.length : Int) ≠ (consLenT m n)))) ?_
 refine TL.mv (pB (decide ((proof.length : Int) ≠ (consLenT m n)))) ?_
 rcases Bool.eq_false_or_eq_true (decide ((proof.length : Int) ≠ (consLenT m n))) with hb3 | hb3
 ·
  refine TL.known 31 hb3 rfl ?_
  have hb3' := hb3
  replace hb3' := of_decide_eq_true hb3'
  refine TL.gf 31 ?_
  refine TL.gf 31 ?_
  refine TL.gf 31 ?_
  refine TL.pk true (pB true) ?_
  refine TL.nil ?_
  refine T.ct ?_
  refine T.seq ?_
  refine T.region ?_
  refine TL.as (.one (.nil)) ?_
  refine TL.as (.one (.nil)) ?_
  refine TL.as (pB false) ?_
  refine TL.nil ?_
  refine T.ret ?_
  refine ⟨[(false, [.nil]), (false, [.nil]), (false, [.d (.bool false)])], (.cons rfl (.cons rfl (.cons rfl .nil))), rfl, [], (RetC.nn ?_ (RetC.nn ?_ (RetC.r ?_ .nil)))⟩ <;> (first | (show (consRootsT m n old proof).1.length = 0; rw [consRootsT_no (Bool.eq_false_iff.2 fun hq_ => by obtain ⟨q1_, q2_, q3_, q4_⟩ := consFits_all hq_; first | omega | exact bool_ne q1_ (by assumption) | exact bool_ne q4_ (by assumption) | (have h_ := ‹hashes [old] = false›; rw [hashes_one] at h_; exact of_decide_eq_false h_ q2_) | (simp_all; done))]; rfl) | (show (consRootsT m n old proof).2.length = 0; rw [consRootsT_no (Bool.eq_false_iff.2 fun hq_ => by obtain ⟨q1_, q2_, q3_, q4_⟩ := consFits_all hq_; first | omega | exact bool_ne q1_ (by assumption) | exact bool_ne q4_ (by assumption) | (have h_ := ‹hashes [old] = false›; rw [hashes_one] at h_; exact of_decide_eq_false h_ q2_) | (simp_all; done))]; rfl) | (congr 1; first | (rw [consRootsT_yes (consFits_mk (m := m) (n := n) (old := old) (proof := proof) (by assumption) (by first | omega | (have h_ := ‹hashes [old] = true›; rw [hashes_one] at h_; exact of_decide_eq_true h_)) (by omega) (by assumption))]; done) | (symm; exact (Bool.eq_false_iff.2 fun hq_ => by obtain ⟨q1_, q2_, q3_, q4_⟩ := consFits_all hq_; first | omega | exact bool_ne q1_ (by assumption) | exact bool_ne q4_ (by assumption) | (have h_ := ‹hashes [old] = false›; rw [hashes_one] at h_; exact of_decide_eq_false h_ q2_) | (simp_all; done))) | (symm; exact (consFits_mk (m := m) (n := n) (old := old) (proof := proof) (by assumption) (by first | omega | (have h_ := ‹hashes [old] = true›; rw [hashes_one] at h_; exact of_decide_eq_true h_)) (by omega) (by assumption)))))
 refine TL.known 31 hb3 rfl ?_
 have hb3' := hb3
 replace hb3' := of_decide_eq_false hb3'
 refine TL.gm 31 (.one (.d (.bss proof))) ?_
 refine TL.gy 31 (Step.cl (xs := [.tmp 32]) (ps := [(.one (.d (.bss proof)))]) (g := .func 55) false (.cons (.one (.d _)) .nil) (ok_impl_areHashes proof)) ?_
 refine TL.gy 31 (Step.not (b := (hashes proof)) rfl rfl (lt_ok rfl) rfl) ?_
 refine TL.pk false (pB (!(hashes proof))) ?_
 refine TL.nil ?_
 refine T.cn rfl (fun h4 => ?_) (fun h4 => ?_)
 ·
  refine T.seq ?_
  refine T.region ?_
  refine TL.as (.one (.nil)) ?_
  refine TL.as (.one (.nil)) ?_
  refine TL.as (pB false) ?_
  refine TL.nil ?_
  refine T.ret ?_
  refine ⟨[(false, [.nil]), (false, [.nil]), (false, [.d (.bool false)])], (.cons rfl (.cons rfl (.cons rfl .nil))), rfl, [], (RetC.nn ?_ (RetC.nn ?_ (RetC.r ?_ .nil)))⟩ <;> (first | (show (consRootsT m n old proof).1.length = 0; rw [consRootsT_no (Bool.eq_false_iff.2 fun hq_ => by obtain ⟨q1_, q2_, q3_, q4_⟩ := consFits_all hq_; first | omega | exact bool_ne q1_ (by assumption) | exact bool_ne q4_ (by assumption) | (have h_ := ‹hashes [old] = false›; rw [hashes_one] at h_; exact of_decide_eq_false h_ q2_) | (simp_all; done))]; rfl) | (show (consRootsT m n old proof).2.length = 0; rw [consRootsT_no (Bool.eq_false_iff.2 fun hq_ => by obtain ⟨q1_, q2_, q3_, q4_⟩ := consFits_all hq_; first | omega | exact bool_ne q1_ (by assumption) | exact bool_ne q4_ (by assumption) | (have h_ := ‹hashes [old] = false›; rw [hashes_one] at h_; exact of_decide_eq_false h_ q2_) | (simp_all; done))]; rfl) | (congr 1; first | (rw [consRootsT_yes (consFits_mk (m := m) (n := n) (old := old) (proof := proof) (by assumption) (by first | omega | (have h_ := ‹hashes [old] = true›; rw [hashes_one] at h_; exact of_decide_eq_true h_)) (by omega) (by assumption))]; done) | (symm; exact (Bool.eq_false_iff.2 fun hq_ => by obtain ⟨q1_, q2_, q3_, q4_⟩ := consFits_all hq_; first | omega | exact bool_ne q1_ (by assumption) | exact bool_ne q4_ (by assumption) | (have h_ := ‹hashes [old] = false›; rw [hashes_one] at h_; exact of_decide_eq_false h_ q2_) | (simp_all; done))) | (symm; exact (consFits_mk (m := m) (n := n) (old := old) (proof := proof) (by assumption) (by first | omega | (have h_ := ‹hashes [old] = true›; rw [hashes_one] at h_; exact of_decide_eq_true h_)) (by omega) (by assumption)))))
 refine T.skip ?_
 refine T.seq ?_
 refine T.region ?_
 refine TL.mv (pI m) ?_
 refine TL.mv (pI n) ?_
 refine TL.mv (pS old) ?_
 refine TL.mv (.one (.d (.bss proof))) ?_
 have nn5 := @cRoots_len m n old proof true (by first | assumption | omega) (by first | assumption | exact mem_sub (by assumption) _ _ | exact s0.2)
 have nn6 := (@cRoots_u8 m n old proof true (by first | assumption | skip) (by first | assumption | exact mem_sub (by assumption) _ _ | exact s0.2)).1
 have nn7 := (@cRoots_u8 m n old proof true (by first | assumption | skip) (by first | assumption | exact mem_sub (by assumption) _ _ | exact s0.2)).2
 refine TL.c (Step.cl (xs := [.tmp 37, .tmp 38, .tmp 39, .tmp 40, .const (.bool true)]) (ps := [(pI m), (pI n), (pS old), (.one (.d (.bss proof))), (pB true)]) (g := .func 56) false (.cons (.one (.d _)) (.cons (.one (.d _)) (.cons (.one (.d _)) (.cons (.one (.d _)) (.cons (.one (.d _)) .nil))))) (ok_impl_consRoots m n old proof true (by first | assumption | omega | exact of_decide_eq_true ‹sizesOk _ _ = true›) (by first | assumption | omega | (rw [← consLenT_yes (of_decide_eq_true ‹sizesOk _ _ = true›)]; omega) | (have := hcl_ (by omega) (by omega) (by omega); omega) | (have := hcr_ (by omega) (by omega) (by omega); omega)) (by first | assumption | exact sha_u8 _ | exact treeRoot_u8 _ | exact nodeHash_u8 _ _ | exact leafHash_u8 _ | exact u8_cons (by decide) (by assumption) | exact mem_getD (p := U8s) (by assumption) (by omega) | exact u8_app (u8_cons (by decide) (by assumption)) (by assumption) | exact fun x hx => by cases hx) (by first | assumption | exact mem_sub (by assumption) _ _ | exact s0.2) (by first | assumption | exact mem_sub (by assumption) _ _ | exact s0.2) (by first | omega | assumption | (simp only [List.length_append] at *; omega)))) ?_
 refine TL.mv (.tup [(false, [.row 1041 []]), (false, [.row 2041 []])]) ?_
 refine TL.c (Step.extract (p := (.one (.row 1041 []))) rfl rfl (lt_ok rfl) rfl rfl) ?_
 refine TL.c (Step.extract (p := (.one (.row 2041 []))) rfl rfl (lt_ok rfl) rfl rfl) ?_
 refine TL.as (.one (.row 1041 [])) ?_
 refine TL.as (.one (.row 2041 [])) ?_
 refine TL.nil ?_
 refine T.seq ?_
 refine T.region ?_
 refine TL.mv (.one (.row 1041 [])) ?_
 refine TL.mv (.one (.row 2041 [])) ?_
 refine TL.as (.one (.row 1041 [])) ?_
 refine TL.as (.one (.row 2041 [])) ?_
 refine TL.as (pB true) ?_
 refine TL.nil ?_
 refine T.ret ?_
 refine ⟨[(false, [.row 1041 []]), (false, [.row 2041 []]), (false, [.d (.bool true)])], (.cons rfl (.cons rfl (.cons rfl .nil))), rfl, [1041, 2041], (RetC.o ?_ (RetC.o ?_ (RetC.r ?_ .nil)))⟩ <;> (first | (show (consRootsT m n old proof).1.length = 0; rw [consRootsT_no (Bool.eq_false_iff.2 fun hq_ => by obtain ⟨q1_, q2_, q3_, q4_⟩ := consFits_all hq_; first | omega | exact bool_ne q1_ (by assumption) | exact bool_ne q4_ (by assumption) | (have h_ := ‹hashes [old] = false›; rw [hashes_one] at h_; exact of_decide_eq_false h_ q2_) | (simp_all; done))]; rfl) | (show (consRootsT m n old proof).2.length = 0; rw [consRootsT_no (Bool.eq_false_iff.2 fun hq_ => by obtain ⟨q1_, q2_, q3_, q4_⟩ := consFits_all hq_; first | omega | exact bool_ne q1_ (by assumption) | exact bool_ne q4_ (by assumption) | (have h_ := ‹hashes [old] = false›; rw [hashes_one] at h_; exact of_decide_eq_false h_ q2_) | (simp_all; done))]; rfl) | (congr 1; first | (rw [consRootsT_yes (consFits_mk (m := m) (n := n) (old := old) (proof := proof) (by assumption) (by first | omega | (have h_ := ‹hashes [old] = true›; rw [hashes_one] at h_; exact of_decide_eq_true h_)) (by omega) (by assumption))]; done) | (symm; exact (Bool.eq_false_iff.2 fun hq_ => by obtain ⟨q1_, q2_, q3_, q4_⟩ := consFits_all hq_; first | omega | exact bool_ne q1_ (by assumption) | exact bool_ne q4_ (by assumption) | (have h_ := ‹hashes [old] = false›; rw [hashes_one] at h_; exact of_decide_eq_false h_ q2_) | (simp_all; done))) | (symm; exact (consFits_mk (m := m) (n := n) (old := old) (proof := proof) (by assumption) (by first | omega | (have h_ := ‹hashes [old] = true›; rw [hashes_one] at h_; exact of_decide_eq_true h_)) (by omega) (by assumption)))))
theorem ok_impl_SameBytes (a : List Int) (b : List Int) (h0_ : U8s a) (h1_ : U8s b) : RO Try.prog 17 [.one (.ints .u8 a), .one (.ints .u8 b)] [(false, [.rd (.bool (decide (a = b)))])] := by
 refine RO.intro Try.func17 rfl 10 rfl (le_ok rfl) fun w Z => ?_
 refine T.bnd 0 0 rfl rfl fun hb_0_0 => ?_
 simp only [D.size, List.length_map] at hb_0_0
 refine T.bnd 1 0 rfl rfl fun hb_1_0 => ?_
 simp only [D.size, List.length_map] at hb_1_0
 refine T.seq ?_
 refine T.region ?_
 refine TL.as (pB false) ?_
 refine TL.nil ?_
 refine T.seq ?_
 refine T.region ?_
 refine TL.mv (pS a) ?_
 refine TL.c (Step.toStr (e := 5) (xs := a) rfl rfl (lt_ok rfl) (by kernel_rfl) (by kernel_rfl) (by kernel_rfl) rfl rfl) ?_
 refine TL.mv (pS b) ?_
 refine TL.c (Step.toStr (e := 5) (xs := b) rfl rfl (lt_ok rfl) (by kernel_rfl) (by kernel_rfl) (by kernel_rfl) rfl rfl) ?_
 refine TL.c (Step.bin rfl rfl (lt_ok rfl) rfl rfl Bin.streq) ?_
 refine TL.as (pB ((strOfNums a).toList == (strOfNums b).toList)) ?_
 refine TL.nil ?_
 refine T.ret ?_
 refine ⟨[(false, [.d (.bool ((strOfNums a).toList == (strOfNums b).toList))])], (.cons rfl .nil), rfl, [], (RetC.r ?_ .nil)⟩ <;> (exact congrArg D.bool (str_eq h0_ h1_))
theorem ok_impl_ConsOk (m : Int) (n : Int) (old : List Int) (root : List Int) (proof : List (List Int)) (h0_ : U8s old) (h1_ : U8s root) (h2_ : ∀ y ∈ proof, U8s y) (h3_ : ∀ y ∈ proof, y.length ≤ 1048576) (h4_ : old.length ≤ 1048576) : RO Try.prog 18 [.one (.int .i64 m), .one (.int .i64 n), .one (.ints .u8 old), .one (.ints .u8 root), .one (.bss proof)] [(false, [.rd (.bool (consOk m n old root proof))])] := by
 refine RO.intro Try.func18 rfl 34 rfl (le_ok rfl) fun w Z => ?_
 refine T.bnd 2 0 rfl rfl fun hb_2_0 => ?_
 simp only [D.size, List.length_map] at hb_2_0
 refine T.bnd 3 0 rfl rfl fun hb_3_0 => ?_
 simp only [D.size, List.length_map] at hb_3_0
 refine T.bnd 4 0 rfl rfl fun hb_4_0 => ?_
 simp only [D.size, List.length_map] at hb_4_0
 refine T.seq ?_
 refine T.region ?_
 refine TL.as (pB false) ?_
 refine TL.nil ?_
 refine T.seq ?_
 refine T.region ?_
 refine TL.mv (pI m) ?_
 refine TL.mv (pI n) ?_
 refine TL.mv (pS old) ?_
 refine TL.mv (.one (.d (.bss proof))) ?_
 have nn1 := @consRootsT_len m n old proof (by first | assumption | omega) (by first | assumption | exact mem_sub (by assumption) _ _ | exact s0.2)
 have nn2 := (@consRootsT_u8 m n old proof (by first | assumption | skip) (by first | assumption | exact mem_sub (by assumption) _ _ | exact s0.2)).1
 have nn3 := (@consRootsT_u8 m n old proof (by first | assumption | skip) (by first | assumption | exact mem_sub (by assumption) _ _ | exact s0.2)).2
 refine TL.c (Step.cl (xs := [.tmp 15, .tmp 16, .tmp 17, .tmp 18]) (ps := [(pI m), (pI n), (pS old), (.one (.d (.bss proof)))]) (g := .func 15) false (.cons (.one (.d _)) (.cons (.one (.d _)) (.cons (.one (.d _)) (.cons (.one (.d _)) .nil)))) (ok_impl_ConsRoots m n old proof (by first | assumption | exact sha_u8 _ | exact treeRoot_u8 _ | exact nodeHash_u8 _ _ | exact leafHash_u8 _ | exact u8_cons (by decide) (by assumption) | exact mem_getD (p := U8s) (by assumption) (by omega) | exact u8_app (u8_cons (by decide) (by assumption)) (by assumption) | exact fun x hx => by cases hx) (by first | assumption | exact mem_sub (by assumption) _ _ | exact s0.2) (by first | assumption | exact mem_sub (by assumption) _ _ | exact s0.2) (by first | omega | assumption | (simp only [List.length_append] at *; omega)))) ?_
 refine TL.mv (.tup [(false, [.row 1019 []]), (false, [.row 2019 []]), (false, [.d (.bool (consFits m n old proof))])]) ?_
 refine TL.c (Step.extract (p := (.one (.row 1019 []))) rfl rfl (lt_ok rfl) rfl rfl) ?_
 refine TL.c (Step.extract (p := (.one (.row 2019 []))) rfl rfl (lt_ok rfl) rfl rfl) ?_
 refine TL.c (Step.extract (p := (pB (consFits m n old proof))) rfl rfl (lt_ok rfl) rfl rfl) ?_
 refine TL.as (.one (.row 1019 [])) ?_
 refine TL.as (.one (.row 2019 [])) ?_
 refine TL.as (pB (consFits m n old proof)) ?_
 refine TL.nil ?_
 refine T.seq ?_
 refine T.region ?_
 refine TL.mv (pB (consFits m n old proof)) ?_
 refine TL.mv (pB (consFits m n old proof)) ?_
 rcases Bool.eq_false_or_eq_true (consFits m n old proof) with hb4 | hb4
 ·
  refine TL.known 24 hb4 rfl ?_
  refine TL.gm 24 (.one (.row 1019 [])) ?_
  refine TL.gm 24 (pS old) ?_
  refine TL.gy 24 (Step.cl (xs := [.tmp 25, .tmp 26]) (ps := [(.one (.row 1019 [])), (pS old)]) (g := .func 17) false (.cons (.one (.row rfl rfl rfl rfl)) (.cons (.one (.d _)) .nil)) (ok_impl_SameBytes (consRootsT m n old proof).1 old (by first | assumption | omega) (by first | assumption | omega))) ?_
  refine TL.pk true (pB (decide ((consRootsT m n old proof).1 = old))) ?_
  refine TL.mv (pB (decide ((consRootsT m n old proof).1 = old))) ?_
  rcases Bool.eq_false_or_eq_true (decide ((consRootsT m n old proof).1 = old)) with hb5 | hb5
  ·
   refine TL.known 29 hb5 rfl ?_
   have hb5' := hb5
   replace hb5' := of_decide_eq_true hb5'
   refine TL.gm 29 (.one (.row 2019 [])) ?_
   refine TL.gm 29 (pS root) ?_
   refine TL.gy 29 (Step.cl (xs := [.tmp 30, .tmp 31]) (ps := [(.one (.row 2019 [])), (pS root)]) (g := .func 17) false (.cons (.one (.row rfl rfl rfl rfl)) (.cons (.one (.d _)) .nil)) (ok_impl_SameBytes (consRootsT m n old proof).2 root (by first | assumption | omega) (by first | assumption | omega))) ?_
   refine TL.pk true (pB (decide ((consRootsT m n old proof).2 = root))) ?_
   refine TL.as (pB (decide ((consRootsT m n old proof).2 = root))) ?_
   refine TL.nil ?_
   refine T.ret ?_
   refine ⟨[(false, [.d (.bool (decide ((consRootsT m n old proof).2 = root)))])], (.cons rfl .nil), rfl, [], (RetC.r ?_ .nil)⟩ <;> (first | rfl | (congr 1; symm; simp only [consOk, *, Bool.and_true, Bool.true_and, Bool.and_false, Bool.false_and, decide_true, decide_false, and_true, true_and, and_self, and_false, false_and, Bool.and_self, not_true, not_false, Bool.not_true, Bool.not_false, ge_iff_le, gt_iff_lt, if_true, if_false, Bool.false_eq_true, ite_true, ite_false, reduceIte]; done) | (congr 1; symm; simp_all [consOk]; done) | (congr 1; symm; simp_all [consOk]; omega))
  refine TL.known 29 hb5 rfl ?_
  have hb5' := hb5
  replace hb5' := of_decide_eq_false hb5'
  refine TL.gf 29 ?_
  refine TL.gf 29 ?_
  refine TL.gf 29 ?_
  refine TL.pk false (pB false) ?_
  refine TL.as (pB false) ?_
  refine TL.nil ?_
  refine T.ret ?_
  refine ⟨[(false, [.d (.bool false)])], (.cons rfl .nil), rfl, [], (RetC.r ?_ .nil)⟩ <;> (first | rfl | (congr 1; symm; simp only [consOk, *, Bool.and_true, Bool.true_and, Bool.and_false, Bool.false_and, decide_true, decide_false, and_true, true_and, and_self, and_false, false_and, Bool.and_self, not_true, not_false, Bool.not_true, Bool.not_false, ge_iff_le, gt_iff_lt, if_true, if_false, Bool.false_eq_true, ite_true, ite_false, reduceIte]; done) | (congr 1; symm; simp_all [consOk]; done) | (congr 1; symm; simp_all [consOk]; omega))
 refine TL.known 24 hb4 rfl ?_
 refine TL.gf 24 ?_
 refine TL.gf 24 ?_
 refine TL.gf 24 ?_
 refine TL.pk false (pB false) ?_
 refine TL.mv (pB false) ?_
 refine TL.gf 29 ?_
 refine TL.gf 29 ?_
 refine TL.gf 29 ?_
 refine TL.pk false (pB false) ?_
 refine TL.as (pB false) ?_
 refine TL.nil ?_
 refine T.ret ?_
 refine ⟨[(false, [.d (.bool false)])], (.cons rfl .nil), rfl, [], (RetC.r ?_ .nil)⟩ <;> (first | rfl | (congr 1; symm; simp only [consOk, *, Bool.and_true, Bool.true_and, Bool.and_false, Bool.false_and, decide_true, decide_false, and_true, true_and, and_self, and_false, false_and, Bool.and_self, not_true, not_false, Bool.not_true, Bool.not_false, ge_iff_le, gt_iff_lt, if_true, if_false, Bool.false_eq_true, ite_true, ite_false, reduceIte]; done) | (congr 1; symm; simp_all [consOk]; done) | (congr 1; symm; simp_all [consOk]; omega))
theorem ok_laws_FnCons (code : List Int) (h0_ : U8s code) : RO Try.prog 3 [.one (.ints .u8 code)] [(false, [.rd (.bool true)])] := by
 refine RO.intro Try.func3 rfl 82 rfl (le_ok rfl) fun w Z => ?_
 refine T.bnd 0 0 rfl rfl fun hb_0_0 => ?_
 simp only [D.size, List.length_map] at hb_0_0
 obtain ⟨hm1_, hm2_, hm3_⟩ := makeList_bd code
 refine T.seq ?_
 refine T.region ?_
 refine TL.as (pB false) ?_
 refine TL.nil ?_
 refine T.seq ?_
 refine T.seq ?_
 refine T.region ?_
 refine TL.mv (pS code) ?_
 refine TL.c (Step.len (e := 5) (z := 1) (d := (.ints .u8 code)) rfl rfl (lt_ok rfl) (by kernel_rfl) rfl rfl) ?_
 refine TL.b _ (Bin.gtr (k := .i64) (a := (code.length : Int)) (b := 1048576)) ?_
 refine TL.nil ?_
 refine T.ci rfl (fun h1 => ?_) (fun h1 => ?_)
 ·
  refine T.seq ?_
  refine T.region ?_
  refine TL.as (pB true) ?_
  refine TL.nil ?_
  refine T.ret ?_
  exact ⟨[(false, [.d (.bool true)])], (.cons rfl .nil), rfl, [], (RetC.rd' rfl .nil)⟩
 refine T.skip ?_
 refine T.seq ?_
 refine T.region ?_
 refine TL.mv (pS code) ?_
 have nn2 := makeList_bd code
 refine TL.c (Step.cl (xs := [.tmp 15]) (ps := [(pS code)]) (g := .func 12) false (.cons (.one (.d _)) .nil) (ok_spec_MakeList code (by assumption) (by first | omega | assumption | (simp only [List.length_append] at *; omega)))) ?_
 refine TL.as (.one (.row 1016 [])) ?_
 refine TL.nil ?_
 refine T.seq ?_
 refine T.region ?_
 refine TL.freeze (r := 1016) rfl (fun _ h => h) ?_
 refine TL.mv (.one (.d (.bss (makeList code)))) ?_
 have nn3 := treeRoot_len (makeList code)
 have nn4 := treeRoot_u8 (makeList code)
 refine TL.c (Step.cl (xs := [.tmp 17]) (ps := [(.one (.d (.bss (makeList code))))]) (g := .func 13) false (.cons (.one (.d _)) .nil) (ok_impl_TreeRoot (makeList code) (by first | assumption | exact mem_sub (by assumption) _ _ | exact s0.2 | exact o1) (by first | assumption | exact mem_sub (by assumption) _ _ | exact s0.2 | exact s1.2))) ?_
 refine TL.as (.one (.row 1018 [])) ?_
 refine TL.nil ?_
 refine T.seq ?_
 refine T.seq ?_
 refine T.region ?_
 refine TL.as (pI 1) ?_
 refine TL.nil ?_
 refine T.block ?_
 refine T.loop (ι := Nat) (fun xx_ => { tm := [(3, (.one (.d (.bss (makeList code))))), (4, (.one (.row 1018 []))), (5, (pI (1 + (xx_ : Int))))], rows := [(1018, (5, (.ints .u8 (treeRoot (makeList code)))))], boxes := [] }) (fun xx_ => xx_ ≤ (makeList code).length) (fun xx_ => (makeList code).length - xx_) 0 ?_ ?_ ?_
 · refine Env.le_mk ⟨rfl, rfl, ?_, trivial⟩ ⟨rfl, trivial⟩ trivial <;> (first | rfl | (refine congrArg (fun n => PV.one (.d (.int .i64 n))) ?_; first | rfl | omega | (simp; done)))
 · exact Nat.zero_le _
 intro i hx
 try dsimp only at hx ⊢
 refine T.seq ?_
 refine T.seq ?_
 refine T.region ?_
 refine TL.mv (pI (1 + (i : Int))) ?_
 refine TL.mv (.one (.d (.bss (makeList code)))) ?_
 refine TL.c (Step.len (e := 22) (z := 1) (d := (.bss (makeList code))) rfl rfl (lt_ok rfl) (by kernel_rfl) rfl rfl) ?_
 refine TL.b _ (Bin.leq (k := .i64) (a := (1 + (i : Int))) (b := ((makeList code).length : Int))) ?_
 refine TL.nil ?_
 refine T.ci rfl (fun h5 => ?_) (fun h5 => ?_)
 ·
  have hpt_ : (((makeList code).drop 0).take ((1 + (i : Int)).toNat - 0)) = (makeList code).take (1 + (i : Int)).toNat := by rw [List.drop_zero, Nat.sub_zero]
  have hca_ := cons_all (l := (makeList code)) (m := (1 + (i : Int))) (by omega) (by omega) (by omega)
  have hca4_ := consOk_all (l := (makeList code)) (m := (1 + (i : Int))) (by omega) (by omega) (by omega)
  rw [← hpt_] at hca_ hca4_
  obtain ⟨hca1_, hca2_, hca3_⟩ := hca_
  have hcu_ := consOfT_u8 (makeList code) (1 + (i : Int))
  have hcl_ := (consOfT_sm (l := (makeList code)) (m := (1 + (i : Int))) (by omega)).2
  refine T.skip ?_
  refine T.seq ?_
  refine T.block ?_
  refine T.seq ?_
  refine T.region ?_
  refine TL.mv (.one (.d (.bss (makeList code)))) ?_
  refine TL.mv (pI (1 + (i : Int))) ?_
  refine TL.c (Step.cl (xs := [.tmp 26, .tmp 27]) (ps := [(.one (.d (.bss (makeList code)))), (pI (1 + (i : Int)))]) (g := .func 14) false (.cons (.one (.d _)) (.cons (.one (.d _)) .nil)) (ok_impl_ConsOf (makeList code) (1 + (i : Int)) (by first | assumption | exact mem_sub (by assumption) _ _ | exact s0.2) (by first | assumption | exact mem_sub (by assumption) _ _ | exact s0.2) (by first | omega | assumption))) ?_
  refine TL.mv (.tup [(false, [.row 1028 []]), (false, [.d (.bool (decide (1 ≤ (1 + (i : Int)) ∧ (1 + (i : Int)) ≤ ((makeList code).length : Int))))])]) ?_
  refine TL.c (Step.extract (p := (.one (.row 1028 []))) rfl rfl (lt_ok rfl) rfl rfl) ?_
  refine TL.c (Step.extract (p := (pB (decide (1 ≤ (1 + (i : Int)) ∧ (1 + (i : Int)) ≤ ((makeList code).length : Int))))) rfl rfl (lt_ok rfl) rfl rfl) ?_
  refine TL.known 30 (c := true) (decide_eq_true (by omega)) rfl ?_
  refine TL.as (.one (.row 1028 [])) ?_
  refine TL.as (pB true) ?_
  refine TL.nil ?_
  refine T.seq ?_
  refine T.region ?_
  refine TL.mv (.one (.d (.bss (makeList code)))) ?_
  refine TL.mv (pI (1 + (i : Int))) ?_
  refine TL.c (Step.slice (e := 22) (z := 1) (l := 0) (h := (1 + (i : Int)).toNat) rfl rfl (lt_ok rfl) (by kernel_rfl) rfl rfl rfl (.none _) ((.some (i := (1 + (i : Int))) rfl (by first | omega | (simp; omega)))) (by first | omega | (simp; omega)) (by simp only [D.size]; first | omega | (simp; omega)) rfl) ?_
  have nn6 := treeRoot_len (((makeList code).drop 0).take ((1 + (i : Int)).toNat - 0))
  have nn7 := treeRoot_u8 (((makeList code).drop 0).take ((1 + (i : Int)).toNat - 0))
  refine TL.c (Step.cl (xs := [.tmp 33]) (ps := [(.one (.d (.bss (((makeList code).drop 0).take ((1 + (i : Int)).toNat - 0)))))]) (g := .func 13) false (.cons (.one (.d _)) .nil) (ok_impl_TreeRoot (((makeList code).drop 0).take ((1 + (i : Int)).toNat - 0)) (by first | assumption | exact mem_sub (by assumption) _ _ | exact s0.2 | exact o1) (by first | assumption | exact mem_sub (by assumption) _ _ | exact s0.2 | exact s1.2))) ?_
  refine TL.as (.one (.row 1034 [])) ?_
  refine TL.nil ?_
  refine T.seq ?_
  refine T.region ?_
  refine TL.mv (pI (1 + (i : Int))) ?_
  refine TL.mv (.one (.d (.bss (makeList code)))) ?_
  refine TL.c (Step.len (e := 22) (z := 1) (d := (.bss (makeList code))) rfl rfl (lt_ok rfl) (by kernel_rfl) rfl rfl) ?_
  refine TL.mv (.one (.row 1034 [])) ?_
  refine TL.mv (.one (.row 1028 [])) ?_
  have nn8 := @consRootsT_len (1 + (i : Int)) ((makeList code).length : Int) (treeRoot (((makeList code).drop 0).take ((1 + (i : Int)).toNat - 0))) (consOfT (makeList code) (1 + (i : Int))) (by first | assumption | omega) (by first | assumption | exact mem_sub (by assumption) _ _ | exact s0.2)
  have nn9 := (@consRootsT_u8 (1 + (i : Int)) ((makeList code).length : Int) (treeRoot (((makeList code).drop 0).take ((1 + (i : Int)).toNat - 0))) (consOfT (makeList code) (1 + (i : Int))) (by first | assumption | skip) (by first | assumption | exact mem_sub (by assumption) _ _ | exact s0.2)).1
  have nn10 := (@consRootsT_u8 (1 + (i : Int)) ((makeList code).length : Int) (treeRoot (((makeList code).drop 0).take ((1 + (i : Int)).toNat - 0))) (consOfT (makeList code) (1 + (i : Int))) (by first | assumption | skip) (by first | assumption | exact mem_sub (by assumption) _ _ | exact s0.2)).2
  refine TL.c (Step.cl (xs := [.tmp 36, .tmp 38, .tmp 39, .tmp 40]) (ps := [(pI (1 + (i : Int))), (pI ((makeList code).length : Int)), (.one (.row 1034 [])), (.one (.row 1028 []))]) (g := .func 15) false (.cons (.one (.d _)) (.cons (.one (.d _)) (.cons (.one (.row rfl rfl rfl rfl)) (.cons (.one (.row rfl rfl rfl rfl)) .nil)))) (ok_impl_ConsRoots (1 + (i : Int)) ((makeList code).length : Int) (treeRoot (((makeList code).drop 0).take ((1 + (i : Int)).toNat - 0))) (consOfT (makeList code) (1 + (i : Int))) (by first | assumption | exact sha_u8 _ | exact treeRoot_u8 _ | exact nodeHash_u8 _ _ | exact leafHash_u8 _ | exact u8_cons (by decide) (by assumption) | exact mem_getD (p := U8s) (by assumption) (by omega) | exact u8_app (u8_cons (by decide) (by assumption)) (by assumption) | exact fun x hx => by cases hx) (by first | assumption | exact mem_sub (by assumption) _ _ | exact s0.2) (by first | assumption | exact mem_sub (by assumption) _ _ | exact s0.2) (by first | omega | assumption | (simp only [List.length_append] at *; omega)))) ?_
  refine TL.mv (.tup [(false, [.row 1041 []]), (false, [.row 2041 []]), (false, [.d (.bool (consFits (1 + (i : Int)) ((makeList code).length : Int) (treeRoot (((makeList code).drop 0).take ((1 + (i : Int)).toNat - 0))) (consOfT (makeList code) (1 + (i : Int)))))])]) ?_
  refine TL.c (Step.extract (p := (.one (.row 1041 []))) rfl rfl (lt_ok rfl) rfl rfl) ?_
  refine TL.c (Step.extract (p := (.one (.row 2041 []))) rfl rfl (lt_ok rfl) rfl rfl) ?_
  refine TL.c (Step.extract (p := (pB (consFits (1 + (i : Int)) ((makeList code).length : Int) (treeRoot (((makeList code).drop 0).take ((1 + (i : Int)).toNat - 0))) (consOfT (makeList code) (1 + (i : Int)))))) rfl rfl (lt_ok rfl) rfl rfl) ?_
  refine TL.known 44 (c := true) (hca1_) rfl ?_
  refine TL.as (.one (.row 1041 [])) ?_
  refine TL.as (.one (.row 2041 [])) ?_
  refine TL.as (pB true) ?_
  refine TL.nil ?_
  refine T.seq ?_
  refine T.region ?_
  refine TL.mv (pB true) ?_
  refine TL.c (Step.not (b := true) rfl rfl (lt_ok rfl) rfl) ?_
  refine TL.mv (pB false) ?_
  refine TL.gm 47 (pB true) ?_
  refine TL.gy 47 (Step.not (b := true) rfl rfl (lt_ok rfl) rfl) ?_
  refine TL.pk false (pB false) ?_
  refine TL.mv (pB false) ?_
  refine TL.gm 51 (.one (.row 1028 [])) ?_
  refine TL.gy 51 (Step.len (e := 22) (z := 1) (d := (.bss (consOfT (makeList code) (1 + (i : Int))))) rfl rfl (lt_ok rfl) (by kernel_rfl) rfl rfl) ?_
  refine TL.gm 51 (pI (1 + (i : Int))) ?_
  refine TL.gm 51 (.one (.d (.bss (makeList code)))) ?_
  refine TL.gy 51 (Step.len (e := 22) (z := 1) (d := (.bss (makeList code))) rfl rfl (lt_ok rfl) (by kernel_rfl) rfl rfl) ?_
  refine TL.gy 51 (Step.cl (xs := [.tmp 54, .tmp 56]) (ps := [(pI (1 + (i : Int))), (pI ((makeList code).length : Int))]) (g := .func 16) false (.cons (.one (.d _)) (.cons (.one (.d _)) .nil)) (ok_impl_ConsLen (1 + (i : Int)) ((makeList code).length : Int))) ?_
  refine TL.gy 51 (Step.bin rfl rfl (lt_ok rfl) rfl rfl (Bin.neq (k := .i64) (a := ((consOfT (makeList code) (1 + (i : Int))).length : Int)) (b := (consLenT (1 + (i : Int)) ((makeList code).length : Int))))) ?_
  refine TL.known 58 (c := false) (decide_eq_false (fun h_ => h_ hca2_)) rfl ?_
  refine TL.pk false (pB false) ?_
  refine TL.mv (pB false) ?_
  refine TL.gm 60 (.one (.row 1041 [])) ?_
  refine TL.gm 60 (.one (.row 1034 [])) ?_
  refine TL.gy 60 (Step.cl (xs := [.tmp 61, .tmp 62]) (ps := [(.one (.row 1041 [])), (.one (.row 1034 []))]) (g := .func 17) false (.cons (.one (.row rfl rfl rfl rfl)) (.cons (.one (.row rfl rfl rfl rfl)) .nil)) (ok_impl_SameBytes (consRootsT (1 + (i : Int)) ((makeList code).length : Int) (treeRoot (((makeList code).drop 0).take ((1 + (i : Int)).toNat - 0))) (consOfT (makeList code) (1 + (i : Int)))).1 (treeRoot (((makeList code).drop 0).take ((1 + (i : Int)).toNat - 0))) (by first | assumption | omega) (by first | assumption | omega))) ?_
  refine TL.known 63 (c := true) (decide_eq_true (congrArg Prod.fst hca3_)) rfl ?_
  refine TL.gy 60 (Step.not (b := true) rfl rfl (lt_ok rfl) rfl) ?_
  refine TL.pk false (pB false) ?_
  refine TL.mv (pB false) ?_
  refine TL.gm 66 (.one (.row 2041 [])) ?_
  refine TL.gm 66 (.one (.row 1018 [])) ?_
  refine TL.gy 66 (Step.cl (xs := [.tmp 67, .tmp 68]) (ps := [(.one (.row 2041 [])), (.one (.row 1018 []))]) (g := .func 17) false (.cons (.one (.row rfl rfl rfl rfl)) (.cons (.one (.row rfl rfl rfl rfl)) .nil)) (ok_impl_SameBytes (consRootsT (1 + (i : Int)) ((makeList code).length : Int) (treeRoot (((makeList code).drop 0).take ((1 + (i : Int)).toNat - 0))) (consOfT (makeList code) (1 + (i : Int)))).2 (treeRoot (makeList code)) (by first | assumption | omega) (by first | assumption | omega))) ?_
  refine TL.known 69 (c := true) (decide_eq_true (congrArg Prod.snd hca3_)) rfl ?_
  refine TL.gy 66 (Step.not (b := true) rfl rfl (lt_ok rfl) rfl) ?_
  refine TL.pk false (pB false) ?_
  refine TL.mv (pB false) ?_
  refine TL.gm 72 (pI (1 + (i : Int))) ?_
  refine TL.gm 72 (.one (.d (.bss (makeList code)))) ?_
  refine TL.gy 72 (Step.len (e := 22) (z := 1) (d := (.bss (makeList code))) rfl rfl (lt_ok rfl) (by kernel_rfl) rfl rfl) ?_
  refine TL.gm 72 (.one (.row 1034 [])) ?_
  refine TL.gm 72 (.one (.row 1018 [])) ?_
  refine TL.gm 72 (.one (.row 1028 [])) ?_
  refine TL.gy 72 (Step.cl (xs := [.tmp 73, .tmp 75, .tmp 76, .tmp 77, .tmp 78]) (ps := [(pI (1 + (i : Int))), (pI ((makeList code).length : Int)), (.one (.row 1034 [])), (.one (.row 1018 [])), (.one (.row 1028 []))]) (g := .func 18) false (.cons (.one (.d _)) (.cons (.one (.d _)) (.cons (.one (.row rfl rfl rfl rfl)) (.cons (.one (.row rfl rfl rfl rfl)) (.cons (.one (.row rfl rfl rfl rfl)) .nil))))) (ok_impl_ConsOk (1 + (i : Int)) ((makeList code).length : Int) (treeRoot (((makeList code).drop 0).take ((1 + (i : Int)).toNat - 0))) (treeRoot (makeList code)) (consOfT (makeList code) (1 + (i : Int))) (by assumption) (by assumption) (by first | assumption | exact mem_sub (by assumption) _ _ | exact s0.2) (by first | assumption | exact mem_sub (by assumption) _ _ | exact s0.2) (by first | omega | assumption | (simp only [List.length_append] at *; omega)))) ?_
  refine TL.known 79 (c := true) (hca4_) rfl ?_
  refine TL.gy 72 (Step.not (b := true) rfl rfl (lt_ok rfl) rfl) ?_
  refine TL.pk false (pB false) ?_
  refine TL.nil ?_
  refine T.wk [(3, (.one (.d (.bss (makeList code))))), (4, (.one (.row 1018 []))), (5, (pI (1 + (i : Int)))), (81, (pB false))] [(1018, (5, (.ints .u8 (treeRoot (makeList code)))))] [] ?_
  refine T.cf ?_
  refine T.skip ?_
  refine T.region ?_
  refine TL.mv (pI (1 + (i : Int))) ?_
  refine TL.c (Step.bin (r := .int .i64 ((1 + (i : Int)) + 1)) rfl rfl (lt_ok rfl) rfl rfl (Bin.add (a := (1 + (i : Int))) (b := 1) (by first | exact wrap_ok (by first | omega | (simp; omega)) (by first | omega | (simp; omega)) | rfl))) ?_
  refine TL.as (pI ((1 + (i : Int)) + 1)) ?_
  refine TL.nil ?_
  refine ⟨i + 1, by omega, by first | omega | (dsimp only; omega), Env.le_mk ⟨rfl, rfl, ?_, trivial⟩ ⟨rfl, trivial⟩ trivial⟩ <;> (first | rfl | (refine congrArg (fun n => PV.one (.d (.int .i64 n))) ?_; first | rfl | omega | (simp; done)))
 refine T.exit ?_
 refine T.seq ?_
 refine T.region ?_
 refine TL.as (pB true) ?_
 refine TL.nil ?_
 refine T.ret ?_
 exact ⟨[(false, [.d (.bool true)])], (.cons rfl .nil), rfl, [], (RetC.rd' rfl .nil)⟩
end Go.Proofs.Ytmdojlglemnijaa.Rf
