/- Regions whose order is drawn: what only reads, and then what follows in its order. -/
import Derived.Test.YtokekdbdnonebaaEngF
namespace Sc
open Go

/-- Does operation j wait for i? -/
def edge (ops : Array Oper) (j i : Nat) : Bool := match ops[j]? with
  | some o => o.after.any fun e => Region.binds .any e && e.on == i
  | none => false
def dstAt (ops : Array Oper) (i : Nat) : Option Tmp := (ops[i]?).bind (·.dst)
def looks (ops : Array Oper) (i : Nat) : List Tmp := match ops[i]? with
  | some o => o.looksAt ops
  | none => []
/-- From k on m operations may come in whatever order, ahead of all behind them. -/
def segB (ops : Array Oper) (k m : Nat) : Bool :=
  (Region.noSelect ops && (List.range ops.size).all (fun i => match ops[i]? with
    | some o => o.after.all fun e => !Region.binds .any e || Nat.blt e.on i
    | none => true)) &&
  (Nat.beq (k + m) ops.size || (Nat.blt (k + m) ops.size && (List.range m).all (fun q => (List.range (k + m + 1)).any fun j => Nat.blt (k + q) j && edge ops j (k + q)))) &&
  (List.range ops.size).all (fun i => Nat.ble i (k + m) || (List.range i).any fun j => Nat.ble (k + m) j && edge ops i j) &&
  (List.range m).all (fun p => (List.range m).all fun q => match dstAt ops (k + q) with
    | some t => (!(looks ops (k + p)).contains t || Nat.beq p q || (bif Nat.blt q p then edge ops (k + p) (k + q) else edge ops (k + q) (k + p))) && (Nat.beq p q || !(dstAt ops (k + p) == some t))
    | none => true)
def mark (m k : Nat) : Array Bool := ((List.range m).map fun i => Nat.blt i k).toArray

section
variable {P : Program} {ro : Option Nat} {Q : Exit → Act → World → Prop} {W0 : World} {n : Nat} {K : Act → World → Prop} {E : Env} {ds : List Deferred} {B : PH} {L : List Asrt} {ops : Array Oper}
/-- The region, its first k operations done. -/
abbrev wd (P : Program) (ro : Option Nat) (ops : Array Oper) (Q : Exit → Act → World → Prop) (k : Nat) : Act → World → Prop := fun a w => wpAnyIn (FR ro) 0 P .any ops Q (ops.size - k) (mark ops.size k) a w

theorem mark_zero (m : Nat) : mark m 0 = Array.replicate m false := by
  have : ∀ i, Nat.blt i 0 = false := fun i => rfl
  rw [← Array.toList_inj]
  simp only [mark, this, List.map_const', List.length_range, Array.toList_replicate]
theorem k_draw {i : Nat} {l : List Oper} (hm : P.follows .mixedOrders = true) (h : KGo W0 n (wd P ro l.toArray Q 0) E ds B L) : KGo W0 n (wp P ro (.region i l.toArray true) Q) E ds B L := fun a w ha hw => by
  refine wpIn_region_any hm ?_
  have := h a _ ha hw.drew
  simp only [wd, Nat.sub_zero, mark_zero] at this
  exact this
theorem mark_getD {m k i : Nat} {d : Bool} (hi : i < m) : (mark m k).getD i d = decide (i < k) := by
  unfold mark
  simp only [Array.getD_eq_getD_getElem?, List.getElem?_toArray, List.getElem?_map, List.getElem?_range hi, Option.map_some, Option.getD_some]
  by_cases h : i < k
  · rw [decide_eq_true h]; exact Nat.ble_eq_true_of_le h
  · rw [decide_eq_false h]
    cases hb : Nat.blt i k with
    | false => rfl
    | true => exact absurd (Nat.le_of_ble_eq_true hb) h
theorem ready_end : Region.ready .any ops (mark ops.size ops.size) = [] := by
  unfold Region.ready
  rw [List.filter_eq_nil_iff]
  intro i hi
  rw [List.mem_range] at hi
  simp [mark_getD hi, hi]
theorem d_nil {k : Nat} (hk : Nat.beq k ops.size = true) (h : KGo W0 n (Q .normal) E ds B L) : KGo W0 n (wd P ro ops Q k) E ds B L := fun a w ha hw => by
  have := Nat.eq_of_beq_eq_true hk
  subst this
  simp only [wd, Nat.sub_self, wpAnyIn]
  exact ⟨ready_end, h a w ha hw⟩
/-- What comes next, and alone. -/
theorem d_op {k : Nat} {o : Oper} (hr : Region.ready .any ops (mark ops.size k) = [k]) (ho : ops[k]? = some o) (hg : gok ops E o.guard = some true) (h : KGo W0 n (wo P ro o (wd P ro ops Q (k + 1)) Q) E ds B L) : KGo W0 n (wd P ro ops Q k) E ds B L := fun a w ha hw => by
  have hlt : k < ops.size := (Array.getElem?_eq_some_iff.1 ho).1
  have e : ops.size - k = (ops.size - (k + 1)) + 1 := by omega
  simp only [wd, e, wpAnyIn]
  rw [hr]
  refine ⟨fun h => (by cases h), fun i hi => ?_⟩
  have hik : i = k := by simpa using hi
  subst hik
  unfold wpOpIn
  simp only [ho]
  rw [if_pos (gok_wanted hg ha)]
  have hm : (mark ops.size i).setIfInBounds i true = mark ops.size (i + 1) := by
    apply Array.ext
    · simp [mark]
    · intro j h1 h2
      have hj : j < ops.size := by simpa [mark] using h2
      have e1 := mark_getD (m := ops.size) (k := i + 1) (d := false) hj
      have e2 := mark_getD (m := ops.size) (k := i) (d := false) hj
      rw [Array.getD_eq_getD_getElem?, Array.getElem?_eq_getElem h2, Option.getD_some] at e1
      have hj2 : j < (mark ops.size i).size := by simpa [mark] using hj
      rw [e1, Array.getElem_setIfInBounds hj2]
      split
      · rename_i e; subst e; simp
      · rename_i hne
        rw [Array.getD_eq_getD_getElem?, Array.getElem?_eq_getElem hj2, Option.getD_some] at e2
        rw [e2]
        rw [Bool.eq_iff_iff]; simp; omega
  rw [hm]
  exact h a w ha hw
theorem d_y {k d : Nat} {op : Op} {ty : TypeId} {pos : String} {af : Array Edge} {g : Option (Nat × Bool)} {v : Value} (hr : Region.ready .any ops (mark ops.size k) = [k]) (ho : ops[k]? = some ⟨some d, op, ty, pos, af, g⟩) (hg : gok ops E g = some true) (hy : Yld P op ty E B L v) (hd : Nat.blt d n = true)
    (h : KGo W0 n (wd P ro ops Q (k + 1)) ((d, v) :: E) ds B L) : KGo W0 n (wd P ro ops Q k) E ds B L :=
  d_op hr ho hg fun a w ha hw => op_val (hy W0 n ds a w _ _ _ _ ha hw) (h _ w (ha.put (Nat.le_of_ble_eq_true hd) v) hw)

/-- Quiet: a value, and the same holds behind it. -/
def QV (P : Program) (o : Oper) (E : Env) (B : PH) (L : List Asrt) (v : Value) : Prop :=
  ∀ (W0 : World) (n : Nat) (ds : List Deferred) (a : Act) (w : World), Knows n E ds a → Holds W0 B L w →
    (execOp a.eval o).run P w = .ok (.value v) w ∨ ∃ f args, (execOp a.eval o).run P w = .ok (.enter f args) w ∧ CallsIn (FR none) 0 P f args w fun e w' => e = .returned v ∧ Holds W0 B L w'
def QY (P : Program) (ops : Array Oper) (o : Oper) (E : Env) (B : PH) (L : List Asrt) (v : Value) : Prop :=
  (gok ops E o.guard = some true ∧ QV P o E B L v) ∨ (gok ops E o.guard = some false ∧ v = undef)
def QW (P : Program) (n : Nat) (ops : Array Oper) (B : PH) (L : List Asrt) : List Oper → Env → (Env → Prop) → Prop
  | [], E, X => X E
  | o :: r, E, X => ∃ v, dok n o.dst = true ∧ QY P ops o E B L v ∧ QW P n ops B L r (eput o.dst v E) X
theorem q_nil {X : Env → Prop} (h : X E) : QW P n ops B L [] E X := h
theorem q_y {X : Env → Prop} {r : List Oper} {d : Nat} {op : Op} {ty : TypeId} {pos : String} {af : Array Edge} {g : Option (Nat × Bool)} {v : Value} (hg : gok ops E g = some true) (hy : Yld P op ty E B L v) (hd : Nat.blt d n = true)
    (h : QW P n ops B L r ((d, v) :: E) X) : QW P n ops B L (⟨some d, op, ty, pos, af, g⟩ :: r) E X :=
  ⟨v, hd, .inl ⟨hg, fun W0 n ds a w ha hw => .inl (hy W0 n ds a w _ _ _ _ ha hw)⟩, h⟩
theorem q_no {X : Env → Prop} {r : List Oper} {d : Nat} {op : Op} {ty : TypeId} {pos : String} {af : Array Edge} {g : Option (Nat × Bool)} (hg : gok ops E g = some false) (hd : Nat.blt d n = true)
    (h : QW P n ops B L r ((d, undef) :: E) X) : QW P n ops B L (⟨some d, op, ty, pos, af, g⟩ :: r) E X :=
  ⟨undef, hd, .inr ⟨hg, rfl⟩, h⟩
/-- A call that leaves all as it was. -/
theorem q_call {X : Env → Prop} {r : List Oper} {d : Nat} {f : FuncId} {args : Array Operand} {ats : Array TypeId} {vs : List Value} {ty : TypeId} {pos : String} {af : Array Edge} {g : Option (Nat × Bool)} {Pre R : List Asrt} {v : Value} [hf : FnC P f] (hg : gok ops E g = some true)
    (hv : evs E args.toList = some vs) (T : Tri P f vs B Pre fun u B' L' => u = v ∧ B' = B ∧ L' = Pre) [p : Part Pre L R] (hd : Nat.blt d n = true)
    (h : QW P n ops B L r ((d, v) :: E) X) : QW P n ops B L (⟨some d, .call ⟨.value (.func f), args, ats⟩, ty, pos, af, g⟩ :: r) E X :=
  ⟨v, hd, .inl ⟨hg, fun W0 n ds a w ha hw => .inr ⟨f, vs.toArray, enter_run ha hv, (T W0 (stars R) w ((hw.ent p.out).ent (Ent.lump _ _))).mono (by
    rintro e w' ⟨u, B', L', rfl, _, ⟨rfl, rfl, rfl⟩, hw'⟩
    exact ⟨rfl, (hw'.ent (Ent.unlump _ _)).ent p.back⟩)⟩⟩, h⟩

/-! ### One walk serves every order -/
def envAt (ops : Array Oper) (k : Nat) (vals : Nat → Value) (E : Env) : Nat → Env
  | 0 => E
  | q + 1 => eput (dstAt ops (k + q)) (vals q) (envAt ops k vals E q)
theorem envAt_in {k m : Nat} {vals : Nat → Value} (hu : ∀ p q t, p < m → q < m → dstAt ops (k + p) = some t → dstAt ops (k + q) = some t → p = q) : ∀ {i j : Nat} {t : Tmp}, i ≤ m → j < i → dstAt ops (k + j) = some t → look (envAt ops k vals E i) t = some (vals j)
  | i + 1, j, t, hi, hj, ht => by
    simp only [envAt]
    by_cases e : j = i
    · subst e; rw [ht]; simp [eput, look]
    · have ih := envAt_in (vals := vals) hu (i := i) (j := j) (t := t) (by omega) (by omega) ht
      cases hd : dstAt ops (k + i) with
      | none => simpa [eput] using ih
      | some s =>
        have hne : s ≠ t := fun e' => by subst e'; exact e (hu j i s (by omega) (by omega) ht hd)
        simp only [eput, look]
        have : Nat.beq s t = false := by
          cases hb : Nat.beq s t with
          | false => rfl
          | true => exact absurd (Nat.eq_of_beq_eq_true hb) hne
        rw [this]; exact ih
theorem envAt_out {k : Nat} {vals : Nat → Value} : ∀ {i : Nat} {t : Tmp}, (∀ j, j < i → dstAt ops (k + j) ≠ some t) → look (envAt ops k vals E i) t = look E t
  | 0, _, _ => rfl
  | i + 1, t, h => by
    have ih := envAt_out (vals := vals) (i := i) (t := t) fun j hj => h j (by omega)
    simp only [envAt]
    cases hd : dstAt ops (k + i) with
    | none => simpa [eput] using ih
    | some s =>
      have hne : s ≠ t := fun e' => by subst e'; exact h i (by omega) hd
      simp only [eput, look]
      have : Nat.beq s t = false := by
        cases hb : Nat.beq s t with
        | false => rfl
        | true => exact absurd (Nat.eq_of_beq_eq_true hb) hne
      rw [this]; exact ih
def consV (v : Value) (vals : Nat → Value) : Nat → Value
  | 0 => v
  | q + 1 => vals q
theorem envAt_cons {k : Nat} {o : Oper} {v : Value} {vals : Nat → Value} (h0 : ops[k]? = some o) (q : Nat) : envAt ops k (consV v vals) E (q + 1) = envAt ops (k + 1) vals (eput o.dst v E) q := by
  induction q with
  | zero => simp [envAt, dstAt, h0, consV]
  | succ q ih =>
    rw [envAt, ih]
    simp only [envAt, consV]
    rw [show k + (q + 1) = k + 1 + q by omega]
theorem QW.vals {X : Env → Prop} (l : List Oper) : ∀ (k : Nat) (E : Env), (∀ q, q < l.length → ops[k + q]? = l[q]?) → QW P n ops B L l E X →
    ∃ vals : Nat → Value, (∀ q, q < l.length → ∃ o, ops[k + q]? = some o ∧ dok n o.dst = true ∧ QY P ops o (envAt ops k vals E q) B L (vals q)) ∧ X (envAt ops k vals E l.length) := by
  induction l with
  | nil => exact fun k E _ h => ⟨fun _ => undef, fun q hq => absurd hq (Nat.not_lt_zero _), h⟩
  | cons o l ih =>
    intro k E hops h
    obtain ⟨v, hd, hy, hr⟩ := h
    have h0 : ops[k]? = some o := by have := hops 0 (by simp); simpa using this
    obtain ⟨vals, h1, h2⟩ := ih (k + 1) _ (fun q hq => by
      have := hops (q + 1) (by simp; omega)
      rw [show k + 1 + q = k + (q + 1) by omega, this]; simp) hr
    refine ⟨consV v vals, fun q hq => ?_, by rw [List.length_cons, envAt_cons h0]; exact h2⟩
    cases q with
    | zero => exact ⟨o, by simpa using h0, hd, by simpa [envAt, consV] using hy⟩
    | succ q =>
      obtain ⟨o', e1, e2, e3⟩ := h1 q (by simp at hq; omega)
      exact ⟨o', by rw [show k + (q + 1) = k + 1 + q by omega]; exact e1, e2, by rw [envAt_cons h0]; exact e3⟩

theorem segB_edges {k m : Nat} (h : segB ops k m = true) : Region.noSelect ops = true ∧ (∀ i o, ops[i]? = some o → ∀ e ∈ o.after, Region.binds .any e = true → e.on < i) := by
  simp only [segB, Bool.and_eq_true] at h
  refine ⟨h.1.1.1.1, fun i o ho e he hb => ?_⟩
  have hi : i < ops.size := (Array.getElem?_eq_some_iff.1 ho).1
  have := List.all_eq_true.1 h.1.1.1.2 i (List.mem_range.2 hi)
  rw [ho] at this
  have := Array.all_eq_true'.1 this e he
  simp only [hb, Bool.not_true, Bool.false_or] at this
  exact Nat.le_of_ble_eq_true this
theorem segB_sink {k m : Nat} (h : segB ops k m = true) : k + m = ops.size ∨ (k + m < ops.size ∧ ∀ q, q < m → ∃ j, k + q < j ∧ j ≤ k + m ∧ edge ops j (k + q) = true) := by
  simp only [segB, Bool.and_eq_true, Bool.or_eq_true] at h
  rcases h.1.1.2 with h1 | ⟨h1, h2⟩
  · exact .inl (Nat.eq_of_beq_eq_true h1)
  · refine .inr ⟨Nat.le_of_ble_eq_true h1, fun q hq => ?_⟩
    obtain ⟨j, hj, hj2⟩ := List.any_eq_true.1 (List.all_eq_true.1 h2 q (List.mem_range.2 hq))
    simp only [Bool.and_eq_true] at hj2
    exact ⟨j, Nat.le_of_ble_eq_true hj2.1, by have := List.mem_range.1 hj; omega, hj2.2⟩
theorem segB_tail {k m : Nat} (h : segB ops k m = true) : ∀ i, k + m < i → i < ops.size → ∃ j, k + m ≤ j ∧ j < i ∧ edge ops i j = true := by
  simp only [segB, Bool.and_eq_true] at h
  intro i hi hs
  have := List.all_eq_true.1 h.1.2 i (List.mem_range.2 hs)
  simp only [Bool.or_eq_true] at this
  rcases this with h1 | h1
  · have := Nat.le_of_ble_eq_true h1; omega
  · obtain ⟨j, hj, hj2⟩ := List.any_eq_true.1 h1
    simp only [Bool.and_eq_true] at hj2
    exact ⟨j, Nat.le_of_ble_eq_true hj2.1, List.mem_range.1 hj, hj2.2⟩
theorem segB_apart {k m : Nat} (h : segB ops k m = true) : ∀ p q t, p < m → q < m → dstAt ops (k + q) = some t →
    (t ∈ looks ops (k + p) → p = q ∨ (q < p ∧ edge ops (k + p) (k + q) = true) ∨ (p < q ∧ edge ops (k + q) (k + p) = true)) ∧ (dstAt ops (k + p) = some t → p = q) := by
  simp only [segB, Bool.and_eq_true] at h
  intro p q t hp hq ht
  have h1 := List.all_eq_true.1 (List.all_eq_true.1 h.2 p (List.mem_range.2 hp)) q (List.mem_range.2 hq)
  rw [ht] at h1
  simp only [Bool.and_eq_true, Bool.or_eq_true, Bool.not_eq_true'] at h1
  obtain ⟨h2, h3⟩ := h1
  refine ⟨fun hl => ?_, fun hd => ?_⟩
  · rcases h2 with (h2 | h2) | h2
    · rw [List.contains_eq_mem, decide_eq_false_iff_not] at h2; exact absurd hl h2
    · exact .inl (Nat.eq_of_beq_eq_true h2)
    · cases hb : Nat.blt q p with
      | true => rw [hb] at h2; exact .inr (.inl ⟨Nat.le_of_ble_eq_true hb, h2⟩)
      | false =>
        rw [hb] at h2
        by_cases e : p = q
        · exact .inl e
        · refine .inr (.inr ⟨?_, h2⟩)
          have : ¬ q < p := fun hlt => by rw [show Nat.blt q p = true from Nat.ble_eq_true_of_le hlt] at hb; cases hb
          omega
  · rcases h3 with h3 | h3
    · exact Nat.eq_of_beq_eq_true h3
    · rw [hd] at h3; simp at h3

/-- Some of a segment's operations have come up. -/
structure SegS (ops : Array Oper) (k m : Nat) (S : Array Bool) (U : List Nat) : Prop where
  size : S.size = ops.size
  low : ∀ j, j < k → S.getD j false = true
  high : ∀ j, k + m ≤ j → S.getD j false = false
  un : ∀ q, q < m → (S.getD (k + q) false = false ↔ q ∈ U)
  nodup : U.Nodup
  lt : ∀ q ∈ U, q < m
  down : ∀ j, k ≤ j → S.getD j false = true → ∀ i, edge ops j i = true → S.getD i false = true
structure SegA (ops : Array Oper) (k m : Nat) (vals : Nat → Value) (n : Nat) (E : Env) (ds : List Deferred) (S : Array Bool) (a : Act) : Prop where
  size : a.tmps.size = n
  defers : a.defers = ds
  done : ∀ q t, q < m → S.getD (k + q) false = true → dstAt ops (k + q) = some t → a.tmps[t]? = some (vals q)
  old : ∀ t u, look E t = some u → (∀ q, q < m → S.getD (k + q) false = true → dstAt ops (k + q) ≠ some t) → a.tmps[t]? = some u

theorem edge_ready {S : Array Bool} {i j : Nat} (hi : i ∈ Region.ready .any ops S) (he : edge ops i j = true) : S.getD j false = true := by
  obtain ⟨_, o, ho, hall⟩ := mem_ready.1 hi
  unfold edge at he
  rw [ho] at he
  obtain ⟨e, he1, he2⟩ := Array.any_eq_true'.1 he
  simp only [Bool.and_eq_true, beq_iff_eq] at he2
  have := hall e he1 he2.1
  rw [he2.2] at this; exact this

theorem SegS.tail {k m : Nat} {S : Array Bool} {U : List Nat} (hB : segB ops k m = true) (hS : SegS ops k m S U) (hU : U ≠ []) : ∀ i, k + m ≤ i → i ∉ Region.ready .any ops S := by
  intro i hi hr
  have hisz : i < ops.size := by obtain ⟨_, o, ho, _⟩ := mem_ready.1 hr; exact (Array.getElem?_eq_some_iff.1 ho).1
  by_cases he : i = k + m
  · subst he
    rcases segB_sink hB with h0 | ⟨_, h1⟩
    · omega
    · obtain ⟨q0, hq0⟩ : ∃ q, q ∈ U := by cases U with
        | nil => exact absurd rfl hU
        | cons q _ => exact ⟨q, by simp⟩
      -- every one that has not come up holds it back
      have key : ∀ d q, q < m → m - q = d → S.getD (k + q) false = false → False := by
        intro d
        induction d using Nat.strongRecOn with
        | _ d ih =>
          intro q hq hd hf
          obtain ⟨j, hj1, hj2, hj3⟩ := h1 q hq
          by_cases hjm : j = k + m
          · subst hjm
            have := edge_ready hr hj3
            rw [hf] at this; cases this
          · obtain ⟨p, rfl⟩ : ∃ p, j = k + p := ⟨j - k, by omega⟩
            cases hsj : S.getD (k + p) false with
            | true => have := hS.down _ (by omega) hsj _ hj3; rw [hf] at this; cases this
            | false => exact ih (m - p) (by omega) p (by omega) rfl hsj
      exact key _ q0 (hS.lt q0 hq0) rfl ((hS.un q0 (hS.lt q0 hq0)).2 hq0)
  · obtain ⟨j, hj1, hj2, hj3⟩ := segB_tail hB i (by omega) hisz
    have := edge_ready hr hj3
    rw [hS.high j hj1] at this; cases this
theorem SegS.more {k m : Nat} {S : Array Bool} {U : List Nat} (hS : SegS ops k m S U) {q : Nat} (hkm : k + m ≤ ops.size) (hq : q ∈ U) (hr : k + q ∈ Region.ready .any ops S) : SegS ops k m (S.setIfInBounds (k + q) true) (U.erase q) := by
  have hlt := hS.lt q hq
  have get : ∀ j, (S.setIfInBounds (k + q) true).getD j false = if j = k + q then true else S.getD j false := by
    intro j
    by_cases e : j = k + q
    · subst e
      rw [if_pos rfl, Array.getD_eq_getD_getElem?, Array.getElem?_setIfInBounds_self_of_lt (by rw [hS.size]; omega)]; rfl
    · rw [if_neg e, Array.getD_eq_getD_getElem?, Array.getElem?_setIfInBounds_ne (Ne.symm e), ← Array.getD_eq_getD_getElem?]
  refine ⟨by simp [hS.size], fun j hj => ?_, fun j hj => ?_, fun p hp => ?_, hS.nodup.erase q, fun p hp => hS.lt p (List.mem_of_mem_erase hp), fun j hj hs i he => ?_⟩
  · rw [get]; split
    · rfl
    · exact hS.low j hj
  · rw [get, if_neg (by omega)]; exact hS.high j hj
  · rw [get, hS.nodup.mem_erase_iff]
    by_cases e : p = q
    · subst e; simp
    · rw [if_neg (by omega), hS.un p hp]; simp [e]
  · rw [get] at hs ⊢
    by_cases e : j = k + q
    · subst e
      split
      · rfl
      · exact edge_ready hr he
    · rw [if_neg e] at hs
      split
      · rfl
      · exact hS.down j hj hs i he
theorem SegA.more {k m : Nat} {S : Array Bool} {U : List Nat} {vals : Nat → Value} {a : Act} (hS : SegS ops k m S U) (hB : segB ops k m = true) (hA : SegA ops k m vals n E ds S a) {q : Nat} (hq : q ∈ U) (hkm : k + m ≤ ops.size) (hd : dok n (dstAt ops (k + q)) = true) :
    SegA ops k m vals n E ds (S.setIfInBounds (k + q) true) (a.put (dstAt ops (k + q)) (vals q)) := by
  have hlt := hS.lt q hq
  have get : ∀ j, (S.setIfInBounds (k + q) true).getD j false = if j = k + q then true else S.getD j false := by
    intro j
    by_cases e : j = k + q
    · subst e
      rw [if_pos rfl, Array.getD_eq_getD_getElem?, Array.getElem?_setIfInBounds_self_of_lt (by rw [hS.size]; omega)]; rfl
    · rw [if_neg e, Array.getD_eq_getD_getElem?, Array.getElem?_setIfInBounds_ne (Ne.symm e), ← Array.getD_eq_getD_getElem?]
  have other : ∀ t u, dstAt ops (k + q) ≠ some t → a.tmps[t]? = u → (a.put (dstAt ops (k + q)) (vals q)).tmps[t]? = u := fun t u hne e => by
    cases hdd : dstAt ops (k + q) with
    | none => exact e
    | some s =>
      have : s ≠ t := fun e' => hne (by rw [hdd, e'])
      show (a.tmps.setIfInBounds s _)[t]? = u
      rw [Array.getElem?_setIfInBounds_ne this]; exact e
  refine ⟨?_, ?_, fun p t hp hs ht => ?_, fun t u he hno => ?_⟩
  · cases dstAt ops (k + q) <;> simp [Act.put, hA.size]
  · cases dstAt ops (k + q) <;> simp [Act.put, hA.defers]
  · by_cases e : p = q
    · subst e
      rw [ht] at hd ⊢
      have : t < n := dok_lt hd t rfl
      show (a.tmps.setIfInBounds t _)[t]? = _
      rw [Array.getElem?_setIfInBounds_self_of_lt (by rw [hA.size]; exact this)]
    · rw [get, if_neg (by omega)] at hs
      refine other t _ (fun e2 => e ?_) (hA.done p t hp hs ht)
      exact ((segB_apart hB q p t hlt hp ht).2 e2).symm
  · have hne : dstAt ops (k + q) ≠ some t := hno q hlt (by rw [get, if_pos rfl])
    exact other t _ hne (hA.old t u he fun p hp hs => hno p hp (by rw [get]; split; rfl; exact hs))

theorem k_quiet {k m : Nat} (hB : segB ops k m = true) (hkm : Nat.ble (k + m) ops.size = true)
    (h : QW P n ops B L ((ops.toList.drop k).take m) E fun E' => KGo W0 n (wd P ro ops Q (k + m)) E' ds B L) : KGo W0 n (wd P ro ops Q k) E ds B L := by
  have hkm := Nat.le_of_ble_eq_true hkm
  have hlen : ((ops.toList.drop k).take m).length = m := by simp; omega
  obtain ⟨vals, hv, hX⟩ := QW.vals (ops := ops) _ k E (fun q hq => by
    rw [hlen] at hq
    rw [List.getElem?_take_of_lt hq, List.getElem?_drop]; simp) h
  rw [hlen] at hv hX
  have hu : ∀ p q t, p < m → q < m → dstAt ops (k + p) = some t → dstAt ops (k + q) = some t → p = q := fun p q t hp hq h1 h2 => (segB_apart hB p q t hp hq h2).2 h1
  intro a0 w0 ha0 hw0
  have hEn : ∀ t u, look E t = some u → t < n := fun t u e => by
    have := (Array.getElem?_eq_some_iff.1 (ha0.env t u e)).1
    rwa [ha0.size] at this
  have main : ∀ (f : Nat) (S : Array Bool) (U : List Nat) (a : Act) (w : World), U.length = f → SegS ops k m S U → SegA ops k m vals n E ds S a → Holds W0 B L w →
      wpAnyIn (FR ro) 0 P .any ops Q (f + (ops.size - (k + m))) S a w := by
    intro f
    induction f with
    | zero =>
      intro S U a w hf hS hA hw
      have hU : U = [] := List.eq_nil_of_length_eq_zero hf
      subst hU
      have hm : S = mark ops.size (k + m) := by
        apply Array.ext
        · rw [hS.size]; simp [mark]
        · intro j h1 h2
          have hj : j < ops.size := by rw [← hS.size]; exact h1
          have e1 := mark_getD (m := ops.size) (k := k + m) (d := false) hj
          rw [Array.getD_eq_getD_getElem?, Array.getElem?_eq_getElem h2, Option.getD_some] at e1
          have e2 : S.getD j false = decide (j < k + m) := by
            by_cases c1 : j < k
            · rw [hS.low j c1]; simp; omega
            · by_cases c2 : j < k + m
              · obtain ⟨q, rfl⟩ : ∃ q, j = k + q := ⟨j - k, by omega⟩
                cases hs : S.getD (k + q) false with
                | true => simp; omega
                | false => have := (hS.un q (by omega)).1 hs; cases this
              · rw [hS.high j (by omega)]; simp; omega
          rw [Array.getD_eq_getD_getElem?, Array.getElem?_eq_getElem h1, Option.getD_some] at e2
          rw [e1, e2]
      subst hm
      rw [Nat.zero_add]
      refine hX a w ⟨hA.size, hA.defers, fun t u e => ?_⟩ hw
      by_cases hex : ∃ q, q < m ∧ dstAt ops (k + q) = some t
      · obtain ⟨q, hq, ht⟩ := hex
        rw [envAt_in hu (Nat.le_refl m) hq ht] at e
        cases e
        exact hA.done q t hq (by rw [mark_getD (by omega)]; simp; omega) ht
      · have hno : ∀ q, q < m → dstAt ops (k + q) ≠ some t := fun q hq ht => hex ⟨q, hq, ht⟩
        rw [envAt_out hno] at e
        exact hA.old t u e fun q hq _ => hno q hq
    | succ f ih =>
      intro S U a w hf hS hA hw
      have hUne : U ≠ [] := fun e => by subst e; simp at hf
      rw [show f + 1 + (ops.size - (k + m)) = (f + (ops.size - (k + m))) + 1 by omega]
      have hkq : ∀ q, q < m → k + q < ops.size := fun q hq => by omega
      refine ⟨fun hemp => ?_, fun i hi => ?_⟩
      · exfalso
        obtain ⟨q0, hq0⟩ : ∃ q, q ∈ U := by cases U with
          | nil => exact absurd rfl hUne
          | cons q _ => exact ⟨q, by simp⟩
        obtain ⟨q, hq, hmin⟩ := exists_least (· ∈ U) q0 hq0
        have hqm := hS.lt q hq
        have : k + q ∈ Region.ready .any ops S := by
          obtain ⟨o, ho, _⟩ := hv q hqm
          refine mem_ready.2 ⟨?_, o, ho, fun e he hb => ?_⟩
          · have h1 := (hS.un q hqm).2 hq
            have hsz : k + q < S.size := by rw [hS.size]; exact hkq q hqm
            rw [Array.getD_eq_getD_getElem?, Array.getElem?_eq_getElem hsz, Option.getD_some] at h1 ⊢
            exact h1
          · have hlt := (segB_edges hB).2 _ o ho e he hb
            by_cases c1 : e.on < k
            · exact hS.low _ c1
            · obtain ⟨p, hp⟩ : ∃ p, e.on = k + p := ⟨e.on - k, by omega⟩
              rw [hp]
              cases hs : S.getD (k + p) false with
              | true => rfl
              | false =>
                have := hmin p ((hS.un p (by omega)).1 hs)
                omega
        rw [hemp] at this; cases this
      · have hiun := (mem_ready.1 hi).1
        have hik : k ≤ i := by
          rcases Nat.lt_or_ge i k with c | c
          · have h1 := hS.low i c
            have hsz : i < S.size := by rw [hS.size]; omega
            rw [Array.getD_eq_getD_getElem?, Array.getElem?_eq_getElem hsz, Option.getD_some] at h1 hiun
            rw [h1] at hiun; cases hiun
          · exact c
        have him : i < k + m := by
          rcases Nat.lt_or_ge i (k + m) with c | c
          · exact c
          · exact absurd hi (hS.tail hB hUne i c)
        obtain ⟨q, rfl⟩ : ∃ q, i = k + q := ⟨i - k, by omega⟩
        have hqm : q < m := by omega
        have hqU : q ∈ U := by
          refine (hS.un q hqm).1 ?_
          have hsz : k + q < S.size := by rw [hS.size]; exact hkq q hqm
          rw [Array.getD_eq_getD_getElem?, Array.getElem?_eq_getElem hsz, Option.getD_some] at hiun ⊢
          exact hiun
        obtain ⟨o, ho, hdo, hy⟩ := hv q hqm
        have hdst : dstAt ops (k + q) = o.dst := by simp [dstAt, ho]
        have hlk : looks ops (k + q) = o.looksAt ops := by simp [looks, ho]
        -- the frame with all that came up before it in the text
        let F := envAt ops k vals E q
        let a' : Act := { tmps := a.tmps.mapIdx fun t v => (look F t).getD v, defers := a.defers }
        have ha't : ∀ t, a'.tmps[t]? = (a.tmps[t]?).map fun v => (look F t).getD v := fun t => by simp [a']
        have hFn : ∀ t u, look F t = some u → t < n := fun t u e => by
          by_cases hex : ∃ p, p < q ∧ dstAt ops (k + p) = some t
          · obtain ⟨p, hp, ht⟩ := hex
            obtain ⟨o', ho', hd', _⟩ := hv p (by omega)
            have : o'.dst = some t := by have := ht; simpa [dstAt, ho'] using this
            exact dok_lt hd' t this
          · exact hEn t u (by rw [← envAt_out (vals := vals) (k := k) (i := q) fun p hp ht => hex ⟨p, hp, ht⟩]; exact e)
        have hK' : Knows n F ds a' := ⟨by simp [a', hA.size], hA.defers, fun t u e => by
          rw [ha't]
          have : t < a.tmps.size := by rw [hA.size]; exact hFn t u e
          rw [Array.getElem?_eq_getElem this, e]; rfl⟩
        have agree : ∀ t, t ∈ o.looksAt ops → a.tmps[t]? = a'.tmps[t]? := fun t ht => by
          rw [ha't]
          cases hF : look F t with
          | none => cases a.tmps[t]? <;> rfl
          | some u =>
            have : a.tmps[t]? = some u := by
              by_cases hex : ∃ p, p < q ∧ dstAt ops (k + p) = some t
              · obtain ⟨p, hp, hpt⟩ := hex
                have e1 : look F t = some (vals p) := envAt_in hu (by omega) hp hpt
                rw [e1] at hF; cases hF
                rcases (segB_apart hB q p t hqm (by omega) hpt).1 (by rw [hlk]; exact ht) with c | ⟨_, c⟩ | ⟨c, _⟩
                · omega
                · exact hA.done p t (by omega) (edge_ready hi c) hpt
                · omega
              · have e1 : look F t = look E t := envAt_out fun p hp ht => hex ⟨p, hp, ht⟩
                rw [e1] at hF
                refine hA.old t u hF fun p hp hs hpt => ?_
                rcases (segB_apart hB q p t hqm hp hpt).1 (by rw [hlk]; exact ht) with c | ⟨c, _⟩ | ⟨_, c⟩
                · subst c; rw [(hS.un q hqm).2 hqU] at hs; cases hs
                · exact hex ⟨p, c, hpt⟩
                · have := hS.down (k + p) (by omega) hs _ c
                  rw [(hS.un q hqm).2 hqU] at this; cases this
            rw [this]; rfl
        have hev : ∀ x ∈ o.op.operands, a.eval x = a'.eval x := fun x hx => by
          cases x with
          | tmp t =>
            have := agree t (List.mem_append_left _ (List.mem_filterMap.2 ⟨.tmp t, by simpa using hx, rfl⟩))
            simp only [Act.eval, Array.getD_eq_getD_getElem?, this]
          | const v => rfl
          | global g => rfl
          | func f => rfl
        have hrun : execOp a.eval o = execOp a'.eval o := execOp_congr o (fun cs b => Region.noSelect_spec (segB_edges hB).1 (k + q) o cs b ho) hev
        have hwant : Region.wanted o (yielded ops a.tmps) = Region.wanted o (yielded ops a'.tmps) := by
          unfold Region.wanted
          cases hg : o.guard with
          | none => rfl
          | some p =>
            obtain ⟨j, b⟩ := p
            dsimp only
            have : yielded ops a.tmps j = yielded ops a'.tmps j := by
              unfold yielded
              cases hj : (ops[j]?).bind (·.dst) with
              | none => rfl
              | some t =>
                simp only [Option.bind_some]
                rw [agree t (List.mem_append_right _ (by rw [hg]; simp only [hj]; simp))]
            rw [this]
        have next : ∀ w', Holds W0 B L w' → wpAnyIn (FR ro) 0 P .any ops Q (f + (ops.size - (k + m))) (S.setIfInBounds (k + q) true) (a.put o.dst (vals q)) w' := fun w' hw' => by
          refine ih _ (U.erase q) _ w' (by rw [List.length_erase_of_mem hqU, hf]; rfl) (hS.more hkm hqU hi) ?_ hw'
          have := hA.more hS hB hqU hkm (by rw [hdst]; exact hdo)
          rwa [hdst] at this
        unfold wpOpIn
        simp only [ho]
        rcases hy with ⟨hg, hq⟩ | ⟨hg, hval⟩
        · rw [if_pos (by rw [hwant]; exact gok_wanted hg hK')]
          rcases hq W0 n ds a' w hK' hw with hr | ⟨f', args, hr, hc⟩
          · exact op_val (by rw [hrun]; exact hr) (next w hw)
          · refine op_enter (by rw [hrun]; exact hr) (hc.mono ?_)
            rintro e w' ⟨rfl, hw'⟩
            exact ⟨_, rfl, next w' hw'⟩
        · rw [if_neg (by rw [hwant, gok_wanted hg hK']; simp)]
          refine ⟨about_any (ro := ro) _ _ _, ?_⟩
          have := next w hw
          rwa [hval] at this
  have h0 : SegS ops k m (mark ops.size k) (List.range m) := by
    have hg : ∀ j, (mark ops.size k).getD j false = (decide (j < k) && decide (j < ops.size)) := fun j => by
      by_cases hj : j < ops.size
      · rw [mark_getD hj]; simp [hj]
      · rw [Array.getD_eq_getD_getElem?, Array.getElem?_eq_none (by simp [mark]; omega)]; simp [hj]
    refine ⟨by simp [mark], fun j hj => by rw [hg]; simp; omega, fun j hj => by rw [hg]; simp; omega, fun q hq => ?_, List.nodup_range, fun q hq => List.mem_range.1 hq, fun j hj hs => ?_⟩
    · rw [hg, List.mem_range]; simp; omega
    · rw [hg] at hs; simp at hs; omega
  have h1 : SegA ops k m vals n E ds (mark ops.size k) a0 := by
    refine ⟨ha0.size, ha0.defers, fun q t hq hs ht => ?_, fun t u e _ => ha0.env t u e⟩
    rw [mark_getD (by omega)] at hs; simp at hs; omega
  have := main m _ _ a0 w0 (by simp) h0 h1 hw0
  rw [show m + (ops.size - (k + m)) = ops.size - k by omega] at this
  exact this
end
end Sc
