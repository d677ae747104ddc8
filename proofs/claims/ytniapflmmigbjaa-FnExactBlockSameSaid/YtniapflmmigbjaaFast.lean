/- Words of this session beside the printed ones: a fact carried over several steps at once (blocks laid, orders drawn, stores into one block). Plain theorems, no condition beside what each states. -/
import Derived.Test.YtniapflmmigbjaaWMore
namespace Go.Proofs.YtniapflmmigbjaaW.PrintWords
open Go.RowKit
set_option linter.unusedVariables false
/-- W2 is W1 behind stores into block g alone. -/
class Far (g : Nat) (W1 W2 : World) : Prop where
  out : ∀ k, k ≠ g → W2.heap[k]? = W1.heap[k]?
instance Far.refl (g : Nat) (W : World) : Far g W W := ⟨fun _ _ => rfl⟩
instance Far.set (g : Nat) (W1 W2 : World) (j : Nat) (u : Value) [h : Far g W1 W2] : Far g W1 (W2.setCell ⟨g, j, none⟩ u) :=
  ⟨fun k hk => (Below.heap_setCell W2 ⟨g, j, none⟩ u k hk).trans (h.out k hk)⟩
/-- W2 is W1 behind blocks laid and orders drawn. -/
class Mv (W1 W2 : World) : Prop where
  out : Below W1.heap.size W1 W2
instance Mv.refl (W : World) : Mv W W := ⟨Below.refl _ _⟩
instance Mv.alloc (W1 W2 : World) (o : Obj) [h : Mv W1 W2] : Mv W1 (W2.alloc o) := ⟨below_alloc h.out o⟩
instance Mv.drewN (W1 W2 : World) (n : Nat) [h : Mv W1 W2] : Mv W1 (W2.drewN n) := ⟨pw_below_drewN h.out n⟩
instance Mv.drew (W1 W2 : World) [h : Mv W1 W2] : Mv W1 W2.drew := ⟨below_drew h.out⟩
theorem blk_mv {W1 W2 : World} {g : Nat} {o : Obj} (h : Aside0 (W1.heap[g]? = some o)) [m : Mv W1 W2] : W2.heap[g]? = some o := (m.out.block g (blk_lt h.out)).trans h.out
namespace Kd
section
variable {α : Type} {d : Kd α} {e : Nat} {W1 W2 : World} {base : Nat} {ok : Nat → Prop} {v : Value} {xs : List α}
theorem R_fars {g : Nat} (h : d.R e W1 base ok v xs) (hok : ∀ k, ok k → k ≠ g) [m : Far g W1 W2] : d.R e W2 base ok v xs := R_step h (fun k ho _ => m.out k (hok k ho))
theorem S_fars {g : Nat} (h : S d e W1 base ok v xs) (hok : ∀ k, ok k → k ≠ g) [m : Far g W1 W2] : S d e W2 base ok v xs := S_step h (fun k ho _ => m.out k (hok k ho))
theorem Q_fars {g : Nat} (h : d.Q e W1 base ok v xs) (hok : ∀ k, ok k → k ≠ g) [m : Far g W1 W2] : d.Q e W2 base ok v xs := Q_step h (fun k ho _ => m.out k (hok k ho))
theorem N_fars {g : Nat} (h : N d e W1 base ok v xs) (hok : ∀ k, ok k → k ≠ g) [m : Far g W1 W2] : N d e W2 base ok v xs := N_step h (fun k ho _ => m.out k (hok k ho))
theorem V_fars {g : Nat} (h : V d e W1 base ok v xs) (hok : ∀ k, ok k → k ≠ g) [m : Far g W1 W2] : V d e W2 base ok v xs := V_step h (fun k ho _ => m.out k (hok k ho))
theorem R_mv (h : Aside0 (d.R e W1 base ok v xs)) [m : Mv W1 W2] : d.R e W2 base ok v xs := R_below h.out m.out
theorem S_mv (h : Aside0 (S d e W1 base ok v xs)) [m : Mv W1 W2] : S d e W2 base ok v xs := S_below h.out m.out
theorem Q_mv (h : Aside0 (d.Q e W1 base ok v xs)) [m : Mv W1 W2] : d.Q e W2 base ok v xs := Q_below h.out m.out
theorem N_mv (h : Aside0 (N d e W1 base ok v xs)) [m : Mv W1 W2] : N d e W2 base ok v xs := N_below h.out m.out
theorem V_mv (h : Aside0 (V d e W1 base ok v xs)) [m : Mv W1 W2] : V d e W2 base ok v xs := V_below h.out m.out
end
end Kd
end Go.Proofs.YtniapflmmigbjaaW.PrintWords
