/- Rows of threes; what is struck out of a row; clear. -/
import Derived.Test.YtokekdbdnonebaaEngU
namespace Sc
open Go
section plain
variable {α σ : Type}
/-- What a test leaves of a list, and the state behind it. -/
def delAll (test : σ → α → Bool) (next : σ → α → σ) : List α → σ → List α × σ
  | [], s => ([], s)
  | w :: r, s => (if test s w then (delAll test next r (next s w)).1 else w :: (delAll test next r (next s w)).1, (delAll test next r (next s w)).2)
def findF (test : σ → α → Bool) (next : σ → α → σ) : List α → σ → Nat → Option Nat × σ
  | [], s, _ => (none, s)
  | w :: r, s, i => if test s w then (some i, next s w) else findF test next r (next s w) (i + 1)
variable {test : σ → α → Bool} {next : σ → α → σ}
theorem findF_none : ∀ {l : List α} {s s' : σ} {i : Nat}, findF test next l s i = (none, s') → delAll test next l s = (l, s')
  | [], s, s', i, h => by simp [findF] at h; simp [delAll, h]
  | w :: r, s, s', i, h => by
    simp only [findF] at h
    split at h
    · cases h
    · rename_i hn
      have ih := findF_none h
      simp only [delAll, ih, if_neg hn]
theorem findF_some : ∀ {l : List α} {s s' : σ} {i k : Nat}, findF test next l s i = (some k, s') → i ≤ k ∧ k - i < l.length ∧ delAll test next l s = (l.take (k - i) ++ (delAll test next (l.drop (k - i + 1)) s').1, (delAll test next (l.drop (k - i + 1)) s').2)
  | w :: r, s, s', i, k, h => by
    simp only [findF] at h
    split at h
    · rename_i ht
      simp only [Prod.mk.injEq, Option.some.injEq] at h
      obtain ⟨rfl, rfl⟩ := h
      simp [delAll, ht]
    · rename_i hn
      obtain ⟨h1, h2, h3⟩ := findF_some h
      refine ⟨by omega, by simp; omega, ?_⟩
      rw [show k - i = (k - (i + 1)) + 1 by omega]
      simp only [delAll, if_neg hn, h3, List.take_succ_cons, List.drop_succ_cons, List.cons_append]
theorem delAll_snoc_in {w : α} {l : List α} {s : σ} : delAll test next (w :: l) s = (if test s w then (delAll test next l (next s w)).1 else w :: (delAll test next l (next s w)).1, (delAll test next l (next s w)).2) := rfl
end plain
abbrev P3 := Value × Value × Value
def p3C (p : P3) : List Value := [p.1, p.2.1, p.2.2]
abbrev p3S (p : P3) : List Seg := [.one p.1, .one p.2.1, .one p.2.2]
structure One3 (p : P3) : Prop where
  a : OneC p.1
  b : OneC p.2.1
  c : OneC p.2.2
theorem p3_len {α : Type} (enc : α → P3) (l : List α) : (l.flatMap fun a => p3C (enc a)).length = l.length * 3 := by
  induction l with
  | nil => rfl
  | cons a l ih => rw [List.flatMap_cons, List.length_append, ih, List.length_cons]; simp [p3C]; omega
theorem p3_sub {α : Type} (enc : α → P3) : ∀ {l : List α} {j : Nat} {a : α}, l[j]? = some a → ((l.flatMap fun a => p3C (enc a)).drop (j * 3)).take 3 = p3C (enc a)
  | b :: l, 0, a, h => by
    simp at h; subst h
    simp [p3C]
  | b :: l, j + 1, a, h => by
    simp at h
    have := p3_sub enc h
    rw [List.flatMap_cons, show (j + 1) * 3 = 3 + j * 3 by omega]
    rw [List.drop_append, List.drop_of_length_le (by simp [p3C])]
    simpa [p3C] using this
theorem p3_set {α : Type} (enc : α → P3) : ∀ (l : List α) (j : Nat) (a : α), j < l.length → (l.flatMap fun a => p3C (enc a)).take (j * 3) ++ p3C (enc a) ++ (l.flatMap fun a => p3C (enc a)).drop (j * 3 + 3) = (l.set j a).flatMap fun a => p3C (enc a)
  | b :: l, 0, a, _ => by simp [p3C]
  | b :: l, j + 1, a, h => by
    have := p3_set enc l j a (by simpa using h)
    rw [List.set_cons_succ, List.flatMap_cons, List.flatMap_cons, ← this, show (j + 1) * 3 = 3 + j * 3 by omega, show 3 + j * 3 + 3 = 3 + (j * 3 + 3) by omega]
    rw [List.take_append, List.drop_append, List.take_of_length_le (by simp [p3C]), List.drop_of_length_le (by simp [p3C])]
    simp [p3C, List.append_assoc]
theorem p3_one {α : Type} {enc : α → P3} (he : ∀ a, One3 (enc a)) (l : List α) : ∀ c ∈ l.flatMap fun a => p3C (enc a), c.oneCell' = true := fun c hc => by
  obtain ⟨a, _, hc⟩ := List.mem_flatMap.1 hc
  simp only [p3C, List.mem_cons, List.not_mem_nil, or_false] at hc
  rcases hc with rfl | rfl | rfl
  · exact (he a).a.out
  · exact (he a).b.out
  · exact (he a).c.out
section
variable {P : Program} {ro : Option Nat} {Q : Exit → Act → World → Prop} {W0 : World} {n : Nat} {K : Act → World → Prop} {E : Env} {ds : List Deferred} {B : PH} {L : List Asrt}
theorem zeroCells_one (z : Array Value) (m : Nat) (hz : ∀ v ∈ z.toList, v.oneCell' = true) : ∀ v ∈ (Builtin.zeroCells z m).toList, v.oneCell' = true := by
  intro v hv
  simp only [Builtin.zeroCells, Array.toList_map, Array.toList_range, List.mem_map, List.mem_range] at hv
  obtain ⟨i, hi, rfl⟩ := hv
  have hp : 0 < z.size := by
    rcases Nat.eq_zero_or_pos z.size with h | h
    · rw [h] at hi; simp at hi
    · exact h
  rw [getElem!_pos z _ (Nat.mod_lt _ hp)]
  exact hz _ (by simp)
theorem o_clr {t e ty b o m c k1 k2 sz tb : Nat} {x : Operand} {pos : String} {af : Array Edge} {g : Option (Nat × Bool)} {xs ys : List Value} {z : List Seg} {R : List Asrt} [hu : TyU P t (.slice e)] [hz : TyZ P e z] [p : PickB b L tb [.row k1 xs, .row k2 ys] R] (hx : ev E x = some (.slice (some ⟨b, o, none⟩) m c)) (hsz : Nat.beq (swidth z) sz = true) (hb : o + m * sz ≤ k1)
    (h : ∀ xs', xs'.length = k1 → xs'.take o = xs.take o → KGo W0 n K E ds B (bk b tb [.row k1 xs', .row k2 ys] :: R)) : KGo W0 n (wo P ro ⟨none, .call ⟨.builtin .clear, #[x], #[t]⟩, ty, pos, af, g⟩ K Q) E ds B L := fun a w ha hw => by
  have hw1 := hw.ent p.out
  obtain ⟨hok, hw2⟩ := hw1.bk
  obtain ⟨zv, hz1, hz2⟩ := hz.run w
  have hzl : (flat z).length = sz := by rw [← swidth_eq hz.ok]; exact Nat.eq_of_beq_eq_true hsz
  have hxl : xs.length = k1 := hok.1.1
  by_cases hm : m = 0
  · subst hm
    refine op_val (w' := w) (v := .tuple #[]) ?_ (h xs hxl rfl _ w ha hw1)
    simp only [execOp, resolve, invoke, builtin, Sem.run_bind, Sem.run_pure, Result.andThen_ok, List.map_toArray, List.map_cons, List.map_nil, ha.eval hx, Builtin.clear_, List.getElem?_toArray, List.getElem?_cons_zero, hu.run]
  · have hone : ∀ v ∈ (Builtin.zeroCells zv.cells m).toList, v.oneCell' = true := zeroCells_one _ _ (by rw [hz2]; simpa using oks_mem hz.ok)
    have hlen : (Builtin.zeroCells zv.cells m).toList.length = m * sz := by simp [Builtin.zeroCells, hz2, hzl]
    obtain ⟨w', hrr, hh⟩ := run_put (P := P) (o := o) (Builtin.zeroCells zv.cells m).toList 0 _ w hw2 (by rw [hlen]; simp [flat, Seg.cells, hxl]; omega) hone
    refine op_val (w' := w') (v := .tuple #[]) ?_ (h (xs.take o ++ (Builtin.zeroCells zv.cells m).toList ++ xs.drop (o + m * sz)) (by simp only [List.length_append, List.length_take, List.length_drop, hlen, hxl]; omega) ?_ _ w' ha ?_)
    · simp only [execOp, resolve, invoke, builtin, Sem.run_bind, Sem.run_pure, Result.andThen_ok, List.map_toArray, List.map_cons, List.map_nil, ha.eval hx, Builtin.clear_, List.getElem?_toArray, List.getElem?_cons_zero, hu.run]
      simp only [hz1, Result.andThen_ok, hrr]
    · rw [List.append_assoc, List.take_append_of_le_length (by simp; omega), List.take_take, Nat.min_self]
    · have e : (flat [.row k1 xs, .row k2 ys]).take (o + 0) ++ (Builtin.zeroCells zv.cells m).toList ++ (flat [.row k1 xs, .row k2 ys]).drop (o + 0 + (Builtin.zeroCells zv.cells m).toList.length) = flat [.row k1 (xs.take o ++ (Builtin.zeroCells zv.cells m).toList ++ xs.drop (o + m * sz)), .row k2 ys] := by
        simp only [flat, Seg.cells, List.append_nil, Nat.add_zero, hlen]
        rw [List.take_append_of_le_length (by omega), List.drop_append_of_le_length (by omega)]
        simp [List.append_assoc]
      rw [e] at hh
      refine hh.ent (Ent.bk ?_ R)
      refine ⟨⟨by simp only [List.length_append, List.length_take, List.length_drop, hlen, hxl]; omega, fun v hv => ?_⟩, hok.2⟩
      simp only [List.mem_append] at hv
      rcases hv with (hv | hv) | hv
      · exact hok.1.2 v (List.mem_of_mem_take hv)
      · exact hone v hv
      · exact hok.1.2 v (List.mem_of_mem_drop hv)
/-- What a test that is handed over does: it answers, and turns a state. -/
def DelT (P : Program) (f : FuncId) (fi ca : List Value) {α σ : Type} (enc : α → P3) (B0 : PH) (St : σ → PH → Asrt → Prop) (good : α → Prop) (test : σ → α → Bool) (next : σ → α → σ) : Prop :=
  ∀ s a B A, B0.le B → St s B A → good a → Tri P f (fi ++ [agg (p3S (enc a))] ++ ca) B [A] fun v B' L' => v = .bool (test s a) ∧ ∃ A', L' = [A'] ∧ St (next s a) B' A'
theorem p3_take {α : Type} (enc : α → P3) : ∀ (l : List α) (i : Nat), (l.flatMap fun a => p3C (enc a)).take (i * 3) = (l.take i).flatMap fun a => p3C (enc a)
  | [], i => by simp
  | b :: l, 0 => by simp
  | b :: l, i + 1 => by
    have := p3_take enc l i
    rw [List.take_succ_cons, List.flatMap_cons, List.flatMap_cons, ← this, show (i + 1) * 3 = 3 + i * 3 by omega, List.take_append, List.take_of_length_le (by simp [p3C])]
    simp [p3C]
theorem del_keep {α σ : Type} {test : σ → α → Bool} {next : σ → α → σ} {l c : List α} {s : σ} {i j : Nat} {a : α} {X : List α × σ} (h : X = (c.take i ++ (delAll test next (l.drop j) s).1, (delAll test next (l.drop j) s).2)) (ha : l[j]? = some a) (hi : i < c.length) (ht : test s a = false) :
    X = ((c.set i a).take (i + 1) ++ (delAll test next (l.drop (j + 1)) (next s a)).1, (delAll test next (l.drop (j + 1)) (next s a)).2) := by
  obtain ⟨h1, h2⟩ := List.getElem?_eq_some_iff.1 ha
  rw [h, List.drop_eq_getElem_cons h1, h2, delAll_snoc_in, ht]
  simp only [Bool.false_eq_true, if_false]
  rw [List.take_succ_eq_append_getElem (by simpa using hi), List.getElem_set_self, List.take_set_of_le (Nat.le_refl _)]
  simp
theorem del_drop {α σ : Type} {test : σ → α → Bool} {next : σ → α → σ} {l c : List α} {s : σ} {i j : Nat} {a : α} {X : List α × σ} (h : X = (c.take i ++ (delAll test next (l.drop j) s).1, (delAll test next (l.drop j) s).2)) (ha : l[j]? = some a) (ht : test s a = true) :
    X = (c.take i ++ (delAll test next (l.drop (j + 1)) (next s a)).1, (delAll test next (l.drop (j + 1)) (next s a)).2) := by
  obtain ⟨h1, h2⟩ := List.getElem?_eq_some_iff.1 ha
  rw [h, List.drop_eq_getElem_cons h1, h2, delAll_snoc_in, ht]
  simp
theorem drop_step {α : Type} {l c : List α} {j : Nat} (h : c.drop j = l.drop j) : c.drop (j + 1) = l.drop (j + 1) := by
  rw [← List.drop_drop, h, List.drop_drop]
end
end Sc
