/- A logic of our own over the kit's 'wp': seventh part: stores into variables and into rows that are owned. Plain definitions and theorems. -/
import Derived.Test.YtmdojlglemnijaaRf6
namespace Go.Proofs.Ytmdojlglemnijaa.Rf
open Go.RowKit
set_option linter.unusedVariables false
set_option linter.unnecessarySimpa false
set_option linter.unusedSimpArgs false

/-- A run of cells of a row that owns. -/
theorem Own.lendN {w : World} {vs : List Value} {ds : List D} {bs : List Nat} (h : Own w vs ds bs) (k n : Nat) (hk : k + n ≤ ds.length) : ∃ b1 b b2, bs = b1 ++ b ++ b2 ∧ Own w ((vs.drop k).take n) ((ds.drop k).take n) b ∧
    ∀ (w' : World) (us : List Value) (es : List D) (b' : List Nat), Own w' us es b' → (∀ k ∈ b1, w'.heap[k]? = w.heap[k]?) → (∀ k ∈ b2, w'.heap[k]? = w.heap[k]?) →
      Own w' (vs.take k ++ us ++ vs.drop (k + n)) (ds.take k ++ es ++ ds.drop (k + n)) (b1 ++ b' ++ b2) := by
  have hl := h.length
  have e1 : vs = vs.take k ++ ((vs.drop k).take n ++ vs.drop (k + n)) := by
    rw [← List.drop_drop, List.take_append_drop, List.take_append_drop]
  have e2 : ds = ds.take k ++ ((ds.drop k).take n ++ ds.drop (k + n)) := by
    rw [← List.drop_drop, List.take_append_drop, List.take_append_drop]
  have h' := h
  rw [e1, e2] at h'
  obtain ⟨b1, c, rfl, h1, h2⟩ := Own.split (by rw [List.length_take, List.length_take, hl]) h'
  obtain ⟨b, b2, rfl, h3, h4⟩ := Own.split (by simp [hl]) h2
  refine ⟨b1, b, b2, by simp, h3, fun w' us es b' ho hk1 hk2 => ?_⟩
  have := (h1.keep hk1).append (ho.append (h4.keep hk2))
  simpa using this

/-- d' is d with the cells from cell j of element i on put anew. -/
def Putd (d : D) (i j : Nat) (es : List D) (d' : D) : Prop :=
  i * d.z + j + es.length ≤ d.flat.length ∧ d'.flat = d.flat.take (i * d.z + j) ++ es ++ d.flat.drop (i * d.z + j + es.length) ∧ d'.size = d.size ∧ d'.z = d.z ∧ d'.wf ∧ d'.isSl = true
theorem Putd.one {d d' x : D} {i j : Nat} (h : d.put i j x = some d') (hw : d.wf) (hs : d.isSl = true) (hi : i < d.size) (hj : j < d.z) : Putd d i j [x] d' := by
  obtain ⟨h1, h2, h3, h4, h5⟩ := D.put_flat h hw hi hj
  have hlt : i * d.z + j < d.flat.length := by
    rw [D.flat_length hw hs]
    calc i * d.z + j < i * d.z + d.z := by omega
      _ = (i + 1) * d.z := by rw [Nat.succ_mul]
      _ ≤ d.size * d.z := Nat.mul_le_mul_right _ (by omega)
  refine ⟨by simp; omega, ?_, h2, h3, h4, h5⟩
  rw [h1, List.set_eq_take_append_cons_drop, if_pos hlt]
  simp
theorem flatten_take {α : Type} (z : Nat) : ∀ (es : List (List α)), (∀ e ∈ es, e.length = z) → ∀ i, es.flatten.take (i * z) = (es.take i).flatten
  | [], _, i => by simp
  | e :: es, h, i => by
    have he := h e (by simp)
    cases i with
    | zero => simp
    | succ i =>
      rw [List.flatten_cons, List.take_append, he, List.take_of_length_le (by rw [he, Nat.succ_mul]; omega), List.take_succ_cons, List.flatten_cons]
      congr 1
      have : (i + 1) * z - z = i * z := by rw [Nat.succ_mul]; omega
      rw [this]
      exact flatten_take z es (fun x hx => h x (by simp [hx])) i
theorem flatten_drop {α : Type} (z : Nat) : ∀ (es : List (List α)), (∀ e ∈ es, e.length = z) → ∀ i, es.flatten.drop (i * z) = (es.drop i).flatten
  | [], _, i => by simp
  | e :: es, h, i => by
    have he := h e (by simp)
    cases i with
    | zero => simp
    | succ i =>
      rw [List.flatten_cons, List.drop_append, he, List.drop_of_length_le (by rw [he, Nat.succ_mul]; omega), List.drop_succ_cons, List.nil_append]
      have : (i + 1) * z - z = i * z := by rw [Nat.succ_mul]; omega
      rw [this]
      exact flatten_drop z es (fun x hx => h x (by simp [hx])) i
theorem Putd.elem {z : Nat} {es : List (List D)} {i : Nat} {e : List D} (hw : (D.sl z es).wf) (hi : i < es.length) (he : e.length = z) : Putd (.sl z es) i 0 e (.sl z (es.set i e)) := by
  have hw' : ∀ e ∈ es, e.length = z := hw
  refine ⟨?_, ?_, by simp [D.size], rfl, fun x hx => ?_, rfl⟩
  · simp only [D.z, D.flat]
    rw [flatten_length z es hw', he, Nat.add_zero, ← Nat.succ_mul]
    exact Nat.mul_le_mul_right _ (by omega)
  · simp only [D.z, D.flat, Nat.add_zero]
    rw [he, ← Nat.succ_mul, flatten_take z es hw', flatten_drop z es hw', List.set_eq_take_append_cons_drop, if_pos hi]
    simp
  · rcases List.mem_or_eq_of_mem_set hx with hx | rfl
    · exact hw' x hx
    · exact he

theorem nodup_repl {b1 c1 c c2 b2 bx : List Nat} {g : Nat} (h : (b1 ++ (g :: (c1 ++ c ++ c2)) ++ b2).Nodup) (hx : bx.Nodup) (hd : ∀ k ∈ bx, k ∉ b1 ++ (g :: (c1 ++ c ++ c2)) ++ b2) : (b1 ++ (g :: (c1 ++ (bx ++ c2) ++ [])) ++ b2).Nodup := by
  rw [List.nodup_iff_count] at h hx ⊢
  intro a
  have h1 := h a
  have h2 := hx a
  simp only [List.count_append, List.count_cons, List.count_nil] at h1 ⊢
  by_cases ha : a ∈ bx
  · have h3 := List.count_eq_zero.2 (hd a ha)
    simp only [List.count_append, List.count_cons] at h3
    omega
  · have h3 := List.count_eq_zero.2 ha
    omega
/-- A store into a block of a row that owns. -/
theorem store_own {w : World} {q : List (Nat × Nat)} {v0 : Value} {d d1 d' : D} {fp : List Nat} {g cap i j : Nat} {vs : List Value} {es : List D} {bx : List Nat} (ho : Own w [v0] [d] fp) (hnd : fp.Nodup) (hp : PathTo w v0 d q (.slice (some ⟨g, 0, none⟩) (d.at_ q).size cap))
    (hx : Own w vs es bx) (hbx : bx.Nodup) (hdis : ∀ k ∈ bx, k ∉ fp) (hput : Putd (d.at_ q) i j es d1) (hat : d.putAt q d1 = some d') :
    ∃ cs t fp', w.heap[g]? = some (.cells cs t (0, 0)) ∧ i * (d.at_ q).z + j + vs.length ≤ cs.size ∧ g ∈ fp ∧
      Own (w.setRow g (cs.toList.take (i * (d.at_ q).z + j) ++ vs ++ cs.toList.drop (i * (d.at_ q).z + j + vs.length)).toArray) [v0] [d'] fp' ∧ fp'.Nodup ∧ ∀ k ∈ fp', k ∈ fp ∨ k ∈ bx := by
  obtain ⟨b1, b, b2, rfl, hb, hback⟩ := Own.lend q _ _ _ _ ho hp
  obtain ⟨k1, k2, _, k3, k4, cs, t, bb, k5, k6, k7, rfl⟩ := own_sl hb
  obtain ⟨p1, p2, p3, p4, p5, p6⟩ := hput
  have hvl : vs.length = es.length := hx.length
  obtain ⟨c1, c, c2, rfl, _, hb2⟩ := k7.lendN (i * (d.at_ q).z + j) es.length p1
  have hflen := D.flat_length k2 k1
  have hfit : (d.at_ q).flat.length ≤ cs.size := by rw [hflen, k6]; exact Nat.mul_le_mul_right _ k3
  generalize hw' : w.setRow g (cs.toList.take (i * (d.at_ q).z + j) ++ vs ++ cs.toList.drop (i * (d.at_ q).z + j + vs.length)).toArray = w'
  have hother : ∀ k, k ≠ g → w'.heap[k]? = w.heap[k]? := fun k hk => by rw [← hw']; exact setRow_other w g k _ hk
  have hsame : w'.heap[g]? = some (.cells (cs.toList.take (i * (d.at_ q).z + j) ++ vs ++ cs.toList.drop (i * (d.at_ q).z + j + vs.length)).toArray t (0, 0)) := by rw [← hw']; exact setRow_heap w g cs _ t (0, 0) k5
  have hgb1 : g ∉ b1 := fun h => by
    have := (List.nodup_append.1 (List.nodup_append.1 hnd).1).2.2 g h g (by simp)
    exact this rfl
  have hgb2 : g ∉ b2 := fun h => by
    have := (List.nodup_append.1 hnd).2.2 g (by simp) g h
    exact this rfl
  have hin : (g :: (c1 ++ c ++ c2)).Nodup := (List.nodup_append.1 (List.nodup_append.1 hnd).1).2.1
  have hgc1 : g ∉ c1 := fun h => (List.nodup_cons.1 hin).1 (by simp [h])
  have hgc2 : g ∉ c2 := fun h => (List.nodup_cons.1 hin).1 (by simp [h])
  have hgx : g ∉ bx := fun h => hdis g h (by simp)
  have ho2 := hb2 w' vs es bx (hx.keep fun k hk => hother k fun e => hgx (e ▸ hk)) (fun k hk => hother k fun e => hgc1 (e ▸ hk)) (fun k hk => hother k fun e => hgc2 (e ▸ hk))
  have hlen' : d1.flat.length = (d.at_ q).flat.length := by
    rw [D.flat_length p5 p6, p3, p4, hflen]
  have hcl : cs.toList.length = cs.size := by simp
  have hvals : (cs.toList.take (d.at_ q).flat.length).take (i * (d.at_ q).z + j) ++ vs ++ (cs.toList.take (d.at_ q).flat.length).drop (i * (d.at_ q).z + j + es.length) =
      (cs.toList.take (i * (d.at_ q).z + j) ++ vs ++ cs.toList.drop (i * (d.at_ q).z + j + vs.length)).take (d.at_ q).flat.length := by
    generalize cs.toList = L at hcl ⊢
    generalize (d.at_ q).flat.length = F at p1 hfit ⊢
    generalize i * (d.at_ q).z + j = K at p1 ⊢
    rw [List.take_append, List.take_append, List.take_take, Nat.min_eq_left (by omega), hvl]
    rw [List.take_of_length_le (show (L.take K).length ≤ F by rw [List.length_take]; omega), List.length_take, Nat.min_eq_left (by omega)]
    rw [List.take_of_length_le (show vs.length ≤ F - K by omega)]
    congr 1
    rw [List.length_append, List.length_take, Nat.min_eq_left (by omega), List.drop_take, hvl]
  rw [hvals, ← p2, ← hlen'] at ho2
  have hb' := Own.sl (vs := []) (ds := []) (b2 := []) (cap := cap) p6 hsame (by rw [p3]; exact k3) k4 (by
    rw [p4, ← k6]
    simp only [List.size_toArray, List.length_append, List.length_take, List.length_drop, hcl]
    omega) p5 (by simpa using ho2) .nil
  rw [p3] at hb'
  have hfin := hback w' d1 d' _ hat hb' (fun k hk => hother k fun e => hgb1 (e ▸ hk)) (fun k hk => hother k fun e => hgb2 (e ▸ hk))
  refine ⟨cs, t, b1 ++ (g :: (c1 ++ (bx ++ c2) ++ [])) ++ b2, k5, by omega, by simp, by rw [hw']; simpa using hfin, ?_, fun k hk => ?_⟩
  · exact nodup_repl hnd hbx hdis
  · simp only [List.append_assoc, List.cons_append, List.append_nil, List.mem_append, List.mem_cons, List.not_mem_nil, or_false] at hk ⊢
    rcases hk with h | h | h | h | h | h <;> simp [h]

theorem D.put_sl {d x d' : D} {i j : Nat} (h : d.put i j x = some d') : d'.isSl = true ∧ d'.size = d.size ∧ d'.z = d.z := by
  cases d with
  | ints k xs =>
    cases j with
    | zero =>
      cases x with
      | int k' n =>
        simp only [D.put] at h
        split at h
        · injection h with h; subst h; exact ⟨rfl, by simp [D.size], rfl⟩
        · exact absurd h (by simp)
      | _ => simp [D.put] at h
    | succ j => simp [D.put] at h
  | bss xs =>
    cases j with
    | zero =>
      cases x with
      | ints k' n => cases k' <;> simp [D.put] at h <;> subst h <;> exact ⟨rfl, by simp [D.size], rfl⟩
      | _ => simp [D.put] at h
    | succ j => simp [D.put] at h
  | sl z es => simp only [D.put] at h; injection h with h; subst h; exact ⟨rfl, by simp [D.size], rfl⟩
  | _ => simp [D.put] at h
theorem D.putAt_sl {d1 d' : D} {q : List (Nat × Nat)} {d : D} (h : d.putAt q d1 = some d') (h1 : d1.isSl = true ∧ d1.size = (d.at_ q).size ∧ d1.z = (d.at_ q).z) : d'.isSl = true ∧ d'.size = d.size ∧ d'.z = d.z := by
  cases q with
  | nil => simp only [D.putAt, Option.some.injEq] at h; subst h; exact h1
  | cons x q =>
    obtain ⟨i, j⟩ := x
    simp only [D.putAt] at h
    obtain ⟨y, _, hy⟩ := Option.bind_eq_some_iff.1 h
    exact D.put_sl hy
end Go.Proofs.Ytmdojlglemnijaa.Rf
