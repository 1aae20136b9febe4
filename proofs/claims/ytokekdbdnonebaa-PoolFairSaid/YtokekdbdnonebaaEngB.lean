/- What is known of a frame; how the code's own forms are walked; segments of cells. -/
import Derived.Test.YtokekdbdnonebaaEngA
namespace Sc
open Go

/-! ### Segments -/
theorem oks_append {s r : List Seg} : oks (s ++ r) ↔ oks s ∧ oks r := by
  induction s with
  | nil => simp [oks]
  | cons x s ih => simp only [List.cons_append, oks, ih, and_assoc]
theorem flat_append (s r : List Seg) : flat (s ++ r) = flat s ++ flat r := by
  induction s with
  | nil => rfl
  | cons x s ih => simp only [List.cons_append, flat, ih, List.append_assoc]
theorem oks_mem {s : List Seg} (h : oks s) : ∀ v ∈ flat s, v.oneCell' = true := by
  induction s with
  | nil => intro v hv; cases hv
  | cons x s ih =>
    intro v hv
    simp only [flat, List.mem_append] at hv
    rcases hv with hv | hv
    · cases x with
      | one u => simp only [Seg.cells, List.mem_singleton] at hv; subst hv; exact h.1
      | row n cs => exact h.1.2 v hv
    · exact ih h.2 v hv
theorem swidth_eq {s : List Seg} (h : oks s) : swidth s = (flat s).length := by
  induction s with
  | nil => rfl
  | cons x s ih =>
    cases x with
    | one u => simp only [swidth, flat, Seg.cells, List.length_append, List.length_cons, List.length_nil, ih h.2]
    | row n cs => simp only [swidth, flat, Seg.cells, List.length_append, ih h.2, h.1.1]
theorem sget_ok {s : List Seg} {v : Value} : ∀ {k : Nat}, oks s → sget s k = some v → (flat s)[k]? = some v := by
  induction s with
  | nil => intro k _ h; cases h
  | cons x s ih =>
    intro k ho h
    cases x with
    | one u =>
      simp only [sget] at h
      cases k with
      | zero => simp at h; subst h; simp [flat, Seg.cells]
      | succ k =>
        have : Nat.beq (k + 1) 0 = false := rfl
        simp only [this, cond_false, Nat.add_sub_cancel] at h
        simpa [flat, Seg.cells] using ih ho.2 h
    | row n cs =>
      simp only [sget] at h
      cases hb : Nat.blt k n with
      | true => rw [hb] at h; cases h
      | false =>
        rw [hb] at h
        simp only [cond_false] at h
        have hk : n ≤ k := by
          have : ¬ k < n := fun h' => by rw [show Nat.blt k n = true from Nat.ble_eq_true_of_le h'] at hb; cases hb
          omega
        simp only [flat, Seg.cells]
        rw [List.getElem?_append_right (by rw [ho.1.1]; exact hk), ho.1.1]
        exact ih ho.2 h
theorem stake_ok {s : List Seg} : ∀ {k : Nat} {x : List Seg}, oks s → stake s k = some x → (flat s).take k = flat x ∧ (flat x).length = k ∧ oks x := by
  induction s with
  | nil =>
    intro k x _ h
    simp only [stake] at h
    cases k with
    | zero => simp at h; subst h; exact ⟨rfl, rfl, trivial⟩
    | succ k => have : Nat.beq (k + 1) 0 = false := rfl; rw [this] at h; cases h
  | cons y s ih =>
    intro k x ho h
    simp only [stake] at h
    cases k with
    | zero => simp at h; subst h; exact ⟨rfl, rfl, trivial⟩
    | succ k =>
      have : Nat.beq (k + 1) 0 = false := rfl
      rw [this] at h
      simp only [cond_false] at h
      cases y with
      | one u =>
        simp only [Nat.add_sub_cancel] at h
        split at h
        · rename_i z hz
          cases h
          obtain ⟨h1, h2, h3⟩ := ih ho.2 hz
          exact ⟨by simp [flat, Seg.cells, h1], by simp [flat, Seg.cells, h2], ho.1, h3⟩
        · cases h
      | row n cs =>
        dsimp only at h
        cases hb : Nat.ble n (k + 1) with
        | false => rw [hb] at h; cases h
        | true =>
          rw [hb] at h
          simp only [cond_true] at h
          have hk := Nat.le_of_ble_eq_true hb
          split at h
          · rename_i z hz
            cases h
            obtain ⟨h1, h2, h3⟩ := ih ho.2 hz
            refine ⟨?_, ?_, ho.1, h3⟩
            · simp only [flat, Seg.cells]
              rw [List.take_append, List.take_of_length_le (l := cs) (by rw [ho.1.1]; exact hk), ho.1.1, h1]
            · simp only [flat, Seg.cells, List.length_append, h2, ho.1.1]; omega
          · cases h
theorem ssub_ok {s : List Seg} : ∀ {k m : Nat} {x : List Seg}, oks s → ssub s k m = some x → ((flat s).drop k).take m = flat x ∧ (flat x).length = m ∧ oks x ∧ k + m ≤ (flat s).length := by
  have fin : ∀ {s : List Seg} {m : Nat} {x : List Seg}, oks s → stake s m = some x → ((flat s).drop 0).take m = flat x ∧ (flat x).length = m ∧ oks x ∧ 0 + m ≤ (flat s).length := by
    intro s m x ho h
    obtain ⟨h1, h2, h3⟩ := stake_ok ho h
    refine ⟨by simpa using h1, h2, h3, ?_⟩
    have := congrArg List.length h1
    rw [List.length_take, h2] at this
    omega
  induction s with
  | nil =>
    intro k m x ho h
    simp only [ssub] at h
    cases k with
    | zero => exact fin ho (by simpa using h)
    | succ k => have : Nat.beq (k + 1) 0 = false := rfl; rw [this] at h; cases h
  | cons y s ih =>
    intro k m x ho h
    simp only [ssub] at h
    cases k with
    | zero => exact fin ho (by simpa using h)
    | succ k =>
      have : Nat.beq (k + 1) 0 = false := rfl
      rw [this] at h
      simp only [cond_false] at h
      cases y with
      | one u =>
        simp only [Nat.add_sub_cancel] at h
        obtain ⟨h1, h2, h3, h4⟩ := ih ho.2 h
        exact ⟨by simpa [flat, Seg.cells] using h1, h2, h3, by simp only [flat, Seg.cells, List.length_append, List.length_cons, List.length_nil]; omega⟩
      | row n cs =>
        dsimp only at h
        cases hb : Nat.ble n (k + 1) with
        | false => rw [hb] at h; cases h
        | true =>
          rw [hb] at h
          simp only [cond_true] at h
          have hk := Nat.le_of_ble_eq_true hb
          obtain ⟨h1, h2, h3, h4⟩ := ih ho.2 h
          refine ⟨?_, h2, h3, ?_⟩
          · simp only [flat, Seg.cells]
            rw [List.drop_append, List.drop_of_length_le (by rw [ho.1.1]; exact hk), List.nil_append, ho.1.1]
            exact h1
          · simp only [flat, Seg.cells, List.length_append, ho.1.1]; omega
theorem sdrop_ok {s : List Seg} : ∀ {k : Nat} {y : List Seg}, oks s → sdrop s k = some y → (flat s).drop k = flat y ∧ oks y ∧ k ≤ (flat s).length := by
  induction s with
  | nil =>
    intro k y ho h
    cases k with
    | zero => simp only [sdrop] at h; cases h; exact ⟨rfl, ho, Nat.zero_le _⟩
    | succ k => simp [sdrop] at h
  | cons x s ih =>
    intro k y ho h
    cases k with
    | zero => simp only [sdrop] at h; cases h; exact ⟨rfl, ho, Nat.zero_le _⟩
    | succ k =>
      cases x with
      | one u =>
        simp only [sdrop] at h
        obtain ⟨h1, h2, h3⟩ := ih ho.2 h
        exact ⟨by simpa [flat, Seg.cells] using h1, h2, by simp only [flat, Seg.cells, List.length_append, List.length_cons, List.length_nil]; omega⟩
      | row n cs =>
        simp only [sdrop] at h
        cases hb : Nat.ble n (k + 1) with
        | false => rw [hb] at h; cases h
        | true =>
          rw [hb] at h
          simp only [cond_true] at h
          have hk := Nat.le_of_ble_eq_true hb
          obtain ⟨h1, h2, h3⟩ := ih ho.2 h
          refine ⟨?_, h2, ?_⟩
          · simp only [flat, Seg.cells]
            rw [List.drop_append, List.drop_of_length_le (by rw [ho.1.1]; exact hk), List.nil_append, ho.1.1]
            exact h1
          · simp only [flat, Seg.cells, List.length_append, ho.1.1]; omega
theorem sput_ok {s x : List Seg} (hx : oks x) : ∀ {k : Nat} {y : List Seg}, oks s → sput s k x = some y →
    flat y = (flat s).take k ++ flat x ++ (flat s).drop (k + (flat x).length) ∧ oks y ∧ k + (flat x).length ≤ (flat s).length := by
  induction s with
  | nil => intro k y _ h; cases h
  | cons z s ih =>
    intro k y ho h
    simp only [sput] at h
    cases k with
    | zero =>
      simp only [show Nat.beq 0 0 = true from rfl, cond_true] at h
      split at h
      · rename_i w hw
        cases h
        rw [swidth_eq hx] at hw
        obtain ⟨h1, h2, h3⟩ := sdrop_ok ho hw
        exact ⟨by simp [flat_append, h1], oks_append.2 ⟨hx, h2⟩, by simpa using h3⟩
      · cases h
    | succ k =>
      have : Nat.beq (k + 1) 0 = false := rfl
      rw [this] at h
      simp only [cond_false] at h
      cases z with
      | one u =>
        simp only [Nat.add_sub_cancel] at h
        split at h
        · rename_i w hw
          cases h
          obtain ⟨h1, h2, h3⟩ := ih ho.2 hw
          refine ⟨?_, ⟨ho.1, h2⟩, by simp only [flat, Seg.cells, List.length_append, List.length_cons, List.length_nil]; omega⟩
          simp only [flat, Seg.cells, h1, List.cons_append, List.nil_append, List.take_succ_cons, List.append_assoc]
          rw [show k + 1 + (flat x).length = (k + (flat x).length) + 1 by omega, List.drop_succ_cons]
        · cases h
      | row n cs =>
        dsimp only at h
        cases hb : Nat.ble n (k + 1) with
        | false => rw [hb] at h; cases h
        | true =>
          rw [hb] at h
          simp only [cond_true] at h
          have hk := Nat.le_of_ble_eq_true hb
          split at h
          · rename_i w hw
            cases h
            obtain ⟨h1, h2, h3⟩ := ih ho.2 hw
            refine ⟨?_, ⟨ho.1, h2⟩, by simp only [flat, Seg.cells, List.length_append, ho.1.1]; omega⟩
            simp only [flat, Seg.cells, h1]
            rw [List.take_append, List.take_of_length_le (l := cs) (by rw [ho.1.1]; exact hk), ho.1.1, List.drop_append, List.drop_of_length_le (l := cs) (by rw [ho.1.1]; omega), List.nil_append, ho.1.1,
              show k + 1 + (flat x).length - n = k + 1 - n + (flat x).length by omega]
            simp [List.append_assoc]
          · cases h

/-! ### A frame -/
abbrev Env := List (Nat × Value)
def look : Env → Nat → Option Value
  | [], _ => none
  | (t, v) :: E, s => bif Nat.beq t s then some v else look E s
def ev (E : Env) : Operand → Option Value
  | .tmp t => look E t
  | .const v => some v
  | .global g => some (.pointer (some ⟨g, 0, none⟩))
  | .func f => some (.func (.func f) #[] #[])
def evs (E : Env) : List Operand → Option (List Value)
  | [] => some []
  | x :: r => match ev E x with
    | some v => match evs E r with
      | some vs => some (v :: vs)
      | none => none
    | none => none
def eput (d : Option Nat) (v : Value) (E : Env) : Env := match d with
  | some t => (t, v) :: E
  | none => E

structure Knows (n : Nat) (E : Env) (ds : List Deferred) (a : Act) : Prop where
  size : a.tmps.size = n
  defers : a.defers = ds
  env : ∀ t v, look E t = some v → a.tmps[t]? = some v

theorem Knows.eval {n : Nat} {E : Env} {ds : List Deferred} {a : Act} (h : Knows n E ds a) {x : Operand} {v : Value} (hx : ev E x = some v) : a.eval x = v := by
  cases x with
  | tmp t =>
    have := h.env t v hx
    simp [Act.eval, Array.getD_eq_getD_getElem?, this]
  | const u => simpa [Act.eval, ev] using hx
  | global g => simpa [Act.eval, ev] using hx
  | func f => simpa [Act.eval, ev] using hx
theorem Knows.evals {n : Nat} {E : Env} {ds : List Deferred} {a : Act} (h : Knows n E ds a) : ∀ {l : List Operand} {vs : List Value}, evs E l = some vs → l.map a.eval = vs
  | [], vs, e => by simp [evs] at e; subst e; rfl
  | x :: r, vs, e => by
    simp only [evs] at e
    split at e
    · rename_i v hv
      split at e
      · rename_i us hu
        cases e
        simp only [List.map_cons, h.eval hv, h.evals hu]
      · cases e
    · cases e
theorem Nat.beq_false_ne {a b : Nat} (h : Nat.beq a b = false) : a ≠ b := fun e => by subst e; simp at h
theorem Knows.put {n : Nat} {E : Env} {ds : List Deferred} {a : Act} (h : Knows n E ds a) {d : Nat} (hd : d < n) (v : Value) : Knows n ((d, v) :: E) ds (a.put (some d) v) := by
  refine ⟨by simp [Act.put, h.size], h.defers, fun t u e => ?_⟩
  simp only [look] at e
  simp only [Act.put]
  cases hb : Nat.beq d t with
  | true =>
    rw [hb] at e
    have := Nat.eq_of_beq_eq_true hb
    subst this
    simp only [cond_true, Option.some.injEq] at e
    subst e
    simp [h.size, hd]
  | false =>
    rw [hb] at e
    have hne := Nat.beq_false_ne hb
    rw [Array.getElem?_setIfInBounds_ne hne]
    exact h.env t u e
theorem Knows.eput {n : Nat} {E : Env} {ds : List Deferred} {a : Act} (h : Knows n E ds a) {d : Option Nat} (hd : ∀ t, d = some t → t < n) (v : Value) : Knows n (Sc.eput d v E) ds (a.put d v) := by
  cases d with
  | none => exact h
  | some t => exact h.put (hd t rfl) v

/-- All that the second knows, the first does. -/
def Sub (E : Env) : Env → Prop
  | [] => True
  | (t, v) :: r => look E t = some v ∧ Sub E r
theorem Sub.look {E : Env} : ∀ {F : Env}, Sub E F → ∀ t v, Sc.look F t = some v → Sc.look E t = some v
  | [], _, _, _, e => by cases e
  | (s, u) :: r, h, t, v, e => by
    simp only [Sc.look] at e
    cases hb : Nat.beq s t with
    | true =>
      rw [hb] at e
      have := Nat.eq_of_beq_eq_true hb
      subst this
      simp only [cond_true, Option.some.injEq] at e
      subst e
      exact h.1
    | false => rw [hb] at e; exact h.2.look t v e
theorem Knows.sub {n : Nat} {E F : Env} {ds : List Deferred} {a : Act} (h : Knows n E ds a) (s : Sub E F) : Knows n F ds a :=
  ⟨h.size, h.defers, fun t v e => h.env t v (s.look t v e)⟩

/-- From whatever frame that is so known, and world that so holds, on to K. -/
def KGo (W0 : World) (n : Nat) (K : Act → World → Prop) (E : Env) (ds : List Deferred) (B : PH) (L : List Asrt) : Prop :=
  ∀ a w, Knows n E ds a → Holds W0 B L w → K a w

section
variable {W0 : World} {n : Nat} {K : Act → World → Prop} {E : Env} {ds : List Deferred} {B : PH} {L : List Asrt}
theorem k_keep (F : Env) (s : Sub E F) (h : KGo W0 n K F ds B L) : KGo W0 n K E ds B L := fun a w ha hw => h a w (ha.sub s) hw
theorem k_ent {M : List Asrt} (e : Ent L M) (h : KGo W0 n K E ds B M) : KGo W0 n K E ds B L := fun a w ha hw => h a w ha (hw.ent e)
theorem k_mono {K' : Act → World → Prop} (hk : ∀ a w, K' a w → K a w) (h : KGo W0 n K' E ds B L) : KGo W0 n K E ds B L := fun a w ha hw => hk a w (h a w ha hw)
/-- Take out an atom. -/
theorem k_pick (A : Asrt) {R : List Asrt} [p : Pick A L R] (h : KGo W0 n K E ds B (A :: R)) : KGo W0 n K E ds B L := k_ent p.out h
/-- Keep just these. -/
theorem k_part (M : List Asrt) {R : List Asrt} [p : Part M L R] (h : KGo W0 n K E ds B (M ++ R)) : KGo W0 n K E ds B L := k_ent p.out h
theorem k_drop {A : Asrt} (h : KGo W0 n K E ds B L) : KGo W0 n K E ds B (A :: L) := k_ent (Ent.drop A L) h
theorem k_aex {α : Type} {p : α → Prop} {M : α → List Asrt} (h : ∀ x, p x → KGo W0 n K E ds B (M x ++ L)) : KGo W0 n K E ds B (aex p M :: L) := fun a w ha hw => by
  obtain ⟨x, hp, hw'⟩ := hw.aex
  exact h x hp a w ha hw'
theorem k_shut {α : Type} {p : α → Prop} {M : α → List Asrt} (x : α) (hp : p x) (h : KGo W0 n K E ds B (aex p M :: L)) : KGo W0 n K E ds B (M x ++ L) := k_ent (Ent.aex x hp L) h
theorem k_oks {b : Nat} {t : TypeId} {s : List Seg} (h : oks s → KGo W0 n K E ds B (bk b t s :: L)) : KGo W0 n K E ds B (bk b t s :: L) := fun a w ha hw => h hw.bk.1 a w ha hw
/-- An atom goes onto the pile. -/
theorem k_freeze {A : Asrt} (h : ∀ k, A k → B.disj k → KGo W0 n K E ds (B.cup k) L) : KGo W0 n K E ds B (A :: L) := fun a w ha hw => by
  obtain ⟨k, hk, hd, hw'⟩ := hw.freeze
  exact h k hk hd a w ha hw'
end

/-- The fence round which nothing is shut out. -/
abbrev FR (ro : Option Nat) : Fence := { fn := fun _ => True, depth := none, alive := false, round := ro }

section
variable {P : Program} {ro : Option Nat} {Q : Exit → Act → World → Prop} {W0 : World} {n : Nat} {K : Act → World → Prop} {E : Env} {ds : List Deferred} {B : PH} {L : List Asrt}
/-- Code, and what is asked behind it. -/
abbrev wp (P : Program) (ro : Option Nat) (c : Code) (Q : Exit → Act → World → Prop) : Act → World → Prop := fun a w => c.wpIn (FR ro) 0 P Q a w
abbrev wl (P : Program) (ro : Option Nat) (ops : Array Oper) (l : List Oper) (Q : Exit → Act → World → Prop) : Act → World → Prop := fun a w => wpListIn (FR ro) 0 P ops Q l a w

theorem k_seq {x y : Code} (h : KGo W0 n (wp P ro x (Exit.then (wp P ro y Q) Q)) E ds B L) : KGo W0 n (wp P ro (x.seq y) Q) E ds B L :=
  fun a w ha hw => wpIn_seq (h a w ha hw)
/-- Where the ways of x meet again: J. -/
theorem k_seqJ {x y : Code} (J : Act → World → Prop) (h : KGo W0 n (wp P ro x (Exit.then J Q)) E ds B L) (hy : ∀ a w, J a w → wp P ro y Q a w) : KGo W0 n (wp P ro (x.seq y) Q) E ds B L :=
  fun a w ha hw => wpIn_seq (wpIn_mono (h a w ha hw) fun e a w q => by cases e <;> first | exact hy _ _ q | exact q)
theorem k_skip (h : KGo W0 n (Q .normal) E ds B L) : KGo W0 n (wp P ro .skip Q) E ds B L := fun a w ha hw => wpIn_skip (h a w ha hw)
theorem k_label {l : Nat} (h : KGo W0 n (Q .normal) E ds B L) : KGo W0 n (wp P ro (.label l) Q) E ds B L := fun a w ha hw => wpIn_label (h a w ha hw)
theorem k_exit {i : Nat} (h : KGo W0 n (Q (.exit i)) E ds B L) : KGo W0 n (wp P ro (.exit i) Q) E ds B L := fun a w ha hw => wpIn_exit (h a w ha hw)
theorem k_ret (h : KGo W0 n (Q .ret) E ds B L) : KGo W0 n (wp P ro .ret Q) E ds B L := fun a w ha hw => wpIn_ret (h a w ha hw)
theorem k_block {i : Nat} {c : Code} (h : KGo W0 n (wp P ro c (Exit.inBlock i Q)) E ds B L) : KGo W0 n (wp P ro (.block i c) Q) E ds B L := fun a w ha hw => wpIn_block (h a w ha hw)
theorem k_cond {c : Operand} {x y : Code} {p : Prop} {dp : Decidable p} (hc : ev E c = some (.bool (@decide p dp))) (ht : p → KGo W0 n (wp P ro x Q) E ds B L) (hf : ¬ p → KGo W0 n (wp P ro y Q) E ds B L) :
    KGo W0 n (wp P ro (.cond c x y) Q) E ds B L := fun a w ha hw => by
  refine wpIn_cond_split (ha.eval hc) (fun h => ht (of_decide_eq_true h) a w ha hw) (fun h => hf (of_decide_eq_false h) a w ha hw)
theorem k_condb {c : Operand} {x y : Code} {b : Bool} (hc : ev E c = some (.bool b)) (ht : b = true → KGo W0 n (wp P ro x Q) E ds B L) (hf : b = false → KGo W0 n (wp P ro y Q) E ds B L) :
    KGo W0 n (wp P ro (.cond c x y) Q) E ds B L := fun a w ha hw => wpIn_cond_split (ha.eval hc) (fun h => ht h a w ha hw) (fun h => hf h a w ha hw)
theorem k_condt {c : Operand} {x y : Code} (hc : ev E c = some (.bool true)) (h : KGo W0 n (wp P ro x Q) E ds B L) : KGo W0 n (wp P ro (.cond c x y) Q) E ds B L :=
  fun a w ha hw => wpIn_cond_true (ha.eval hc) (h a w ha hw)
theorem k_condf {c : Operand} {x y : Code} (hc : ev E c = some (.bool false)) (h : KGo W0 n (wp P ro y Q) E ds B L) : KGo W0 n (wp P ro (.cond c x y) Q) E ds B L :=
  fun a w ha hw => wpIn_cond_false (ha.eval hc) (h a w ha hw)
theorem k_region {i : Nat} {l : List Oper} (h : KGo W0 n (wl P ro l.toArray l Q) E ds B L) : KGo W0 n (wp P ro (.region i l.toArray false) Q) E ds B L :=
  fun a w ha hw => wpIn_region_lit (h a w ha hw)
theorem n_nil {ops : Array Oper} (h : KGo W0 n (Q .normal) E ds B L) : KGo W0 n (wl P ro ops [] Q) E ds B L := fun a w ha hw => wpListIn_nil (h a w ha hw)
theorem th_n (h : KGo W0 n K E ds B L) : KGo W0 n (Exit.then K Q .normal) E ds B L := h
theorem th_r (h : KGo W0 n (Q .ret) E ds B L) : KGo W0 n (Exit.then K Q .ret) E ds B L := h
theorem th_x {i : Nat} (h : KGo W0 n (Q (.exit i)) E ds B L) : KGo W0 n (Exit.then K Q (.exit i)) E ds B L := h
theorem bl_n {i : Nat} (h : KGo W0 n (Q .normal) E ds B L) : KGo W0 n (Exit.inBlock i Q .normal) E ds B L := h
theorem bl_r {i : Nat} (h : KGo W0 n (Q .ret) E ds B L) : KGo W0 n (Exit.inBlock i Q .ret) E ds B L := h
theorem bl_s {i : Nat} (h : KGo W0 n (Q .normal) E ds B L) : KGo W0 n (Exit.inBlock i Q (.exit i)) E ds B L := fun a w ha hw => by simp only [Exit.inBlock, if_true]; exact h a w ha hw
theorem bl_x {i j : Nat} (hne : Nat.beq j i = false) (h : KGo W0 n (Q (.exit j)) E ds B L) : KGo W0 n (Exit.inBlock i Q (.exit j)) E ds B L := fun a w ha hw => by
  simp only [Exit.inBlock, if_neg (Nat.beq_false_ne hne)]; exact h a w ha hw

/-- Once more round a loop, or on to where ways meet: some y of which Inv holds, and what SE, SB, SL say of it. -/
def Again {α : Type} (W0 : World) (n : Nat) (ds : List Deferred) (Inv : α → Prop) (SE : α → Env) (SB : α → PH) (SL : α → List Asrt) : Act → World → Prop :=
  fun a w => ∃ y, Inv y ∧ Knows n (SE y) ds a ∧ Holds W0 (SB y) (SL y) w
theorem k_again {α : Type} {Inv : α → Prop} {SE : α → Env} {SB : α → PH} {SL : α → List Asrt} (y : α) {R : List Asrt} (hi : Inv y) (hE : Sub E (SE y)) (hB : B = SB y) [p : Part (SL y) L R] :
    KGo W0 n (Again W0 n ds Inv SE SB SL) E ds B L := fun a w ha hw => by
  have h1 : Holds W0 B (SL y ++ R) w := hw.ent p.out
  have h2 : Ent (SL y ++ R) (SL y) := fun h hs => by
    obtain ⟨k1, k2, _, rfl, s1, _⟩ := (stars_append _ _ _).1 hs
    exact ⟨k1, PH.le_cup_left _ _, s1⟩
  exact ⟨y, hi, ha.sub hE, hB ▸ h1.ent h2⟩
theorem k_of_again {α : Type} {Inv : α → Prop} {SE : α → Env} {SB : α → PH} {SL : α → List Asrt} (h : ∀ y, Inv y → KGo W0 n K (SE y) ds (SB y) (SL y)) :
    ∀ a w, Again W0 n ds Inv SE SB SL a w → K a w := fun a w ⟨y, hi, ha, hw⟩ => h y hi a w ha hw

theorem exists_least (S : Nat → Prop) : ∀ m, S m → ∃ k, S k ∧ ∀ j, S j → k ≤ j := by
  intro m
  induction m using Nat.strongRecOn with
  | _ m ih =>
    intro hm
    by_cases h : ∃ j, j < m ∧ S j
    · obtain ⟨j, hj, hs⟩ := h
      exact ih j hj hs
    · exact ⟨m, hm, fun j hj => by
        rcases Nat.lt_or_ge j m with h' | h'
        · exact absurd ⟨j, h', hj⟩ h
        · exact h'⟩
theorem k_loop {α : Type} {c : Code} (Inv : α → Prop) (SE : α → Env) (SB : α → PH) (SL : α → List Asrt) (μ : α → Nat) (start : KGo W0 n (Again W0 n ds Inv SE SB SL) E ds B L)
    (round : ∀ x, Inv x → KGo W0 n (wp P ro c (Exit.then (Again W0 n ds (fun y => Inv y ∧ μ y < μ x) SE SB SL) Q)) (SE x) ds (SB x) (SL x)) : KGo W0 n (wp P ro (.loop c) Q) E ds B L := by
  intro a w ha hw
  let S : Act → World → Nat → Prop := fun a w m => ∃ y, Inv y ∧ Knows n (SE y) ds a ∧ Holds W0 (SB y) (SL y) w ∧ μ y = m
  have ex : ∀ a w, (∃ m, S a w m) → ∃ k, S a w k ∧ ∀ j, S a w j → k ≤ j := fun a w ⟨m, hm⟩ => exists_least _ m hm
  let ν : Act → World → Nat := fun a w => @dite Nat (∃ m, S a w m) (Classical.propDecidable _) (fun h => Classical.choose (ex a w h)) (fun _ => 0)
  have hν : ∀ a w, (h : ∃ m, S a w m) → S a w (ν a w) ∧ ∀ j, S a w j → ν a w ≤ j := fun a w h => by
    have : ν a w = Classical.choose (ex a w h) := dif_pos h
    rw [this]; exact Classical.choose_spec (ex a w h)
  obtain ⟨x, hx, ha', hw'⟩ := start a w ha hw
  refine wpIn_loop (fun a w => ∃ m, S a w m) ν ⟨_, x, hx, ha', hw', rfl⟩ ?_
  intro a1 w1 h1
  obtain ⟨⟨y, hy, ka, kw, hm⟩, _⟩ := hν a1 w1 h1
  refine wpIn_mono (round y hy a1 w1 ka kw) fun e a2 w2 q => ?_
  cases e with
  | normal =>
    obtain ⟨z, ⟨hz, hlt⟩, za, zw⟩ := q
    have h2 : ∃ m, S a2 w2 m := ⟨_, z, hz, za, zw, rfl⟩
    exact ⟨h2, Nat.lt_of_le_of_lt ((hν a2 w2 h2).2 _ ⟨z, hz, za, zw, rfl⟩) (hm ▸ hlt)⟩
  | _ => exact q
end
end Sc
