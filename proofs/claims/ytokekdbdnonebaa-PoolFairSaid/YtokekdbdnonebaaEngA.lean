/- The ground of these proofs: heaps in parts, what a world holds, and what is known of a frame's temporaries. -/
import Derived.RangeFuncRecord
import Derived.TacticsIn
import Derived.OrdersIn
namespace Sc
open Go

/-- A part of a heap. -/
abbrev PH := Nat → Option Obj
def PH.le (h k : PH) : Prop := ∀ b o, h b = some o → k b = some o
def PH.disj (h k : PH) : Prop := ∀ b, h b = none ∨ k b = none
def PH.cup (h k : PH) : PH := fun b => match h b with
  | some o => some o
  | none => k b
def PH.emp : PH := fun _ => none
def PH.one (b : Nat) (o : Obj) : PH := fun x => if x = b then some o else none

theorem PH.le_refl (h : PH) : h.le h := fun _ _ e => e
theorem PH.le_trans {a b c : PH} (h : a.le b) (k : b.le c) : a.le c := fun x o e => k x o (h x o e)
theorem PH.le_cup_left (h k : PH) : h.le (h.cup k) := fun b o e => by simp [PH.cup, e]
theorem PH.le_cup_right {h k : PH} (d : h.disj k) : k.le (h.cup k) := fun b o e => by
  rcases d b with h1 | h1
  · simp [PH.cup, h1, e]
  · rw [h1] at e; cases e
theorem PH.disj_symm {h k : PH} (d : h.disj k) : k.disj h := fun b => (d b).symm
theorem PH.disj_le {h h' k k' : PH} (d : h.disj k) (l : h'.le h) (m : k'.le k) : h'.disj k' := fun b => by
  rcases d b with e | e
  · refine .inl ?_
    cases e' : h' b with
    | none => rfl
    | some o => rw [l b o e'] at e; cases e
  · refine .inr ?_
    cases e' : k' b with
    | none => rfl
    | some o => rw [m b o e'] at e; cases e
theorem PH.cup_disj {a b c : PH} : (a.cup b).disj c ↔ a.disj c ∧ b.disj c := by
  constructor
  · intro d
    refine ⟨fun x => ?_, fun x => ?_⟩ <;> rcases d x with e | e
    · cases h : a x with
      | none => exact .inl rfl
      | some o => simp [PH.cup, h] at e
    · exact .inr e
    · cases h : a x with
      | none => simp only [PH.cup, h] at e; exact .inl e
      | some o => simp [PH.cup, h] at e
    · exact .inr e
  · rintro ⟨d, e⟩ x
    rcases d x with h | h
    · rcases e x with h' | h'
      · exact .inl (by simp [PH.cup, h, h'])
      · exact .inr h'
    · exact .inr h
theorem PH.disj_cup {a b c : PH} : c.disj (a.cup b) ↔ c.disj a ∧ c.disj b := by
  constructor
  · intro h; have := PH.cup_disj.1 (PH.disj_symm h); exact ⟨PH.disj_symm this.1, PH.disj_symm this.2⟩
  · intro h; exact PH.disj_symm (PH.cup_disj.2 ⟨PH.disj_symm h.1, PH.disj_symm h.2⟩)
theorem PH.cup_assoc (a b c : PH) : (a.cup b).cup c = a.cup (b.cup c) := by
  funext x; simp only [PH.cup]; cases a x <;> rfl
theorem PH.cup_comm {a b : PH} (d : a.disj b) : a.cup b = b.cup a := by
  funext x; simp only [PH.cup]
  rcases d x with h | h
  · rw [h]; cases b x <;> rfl
  · rw [h]; cases a x <;> rfl
theorem PH.cup_emp (a : PH) : a.cup PH.emp = a := by funext x; simp only [PH.cup, PH.emp]; cases a x <;> rfl
theorem PH.emp_cup (a : PH) : PH.emp.cup a = a := rfl
theorem PH.disj_emp (a : PH) : a.disj PH.emp := fun _ => .inr rfl
theorem PH.emp_disj (a : PH) : PH.emp.disj a := fun _ => .inl rfl
theorem PH.emp_le (a : PH) : PH.emp.le a := fun _ _ h => by cases h
theorem PH.one_same (b : Nat) (o : Obj) : PH.one b o b = some o := by simp [PH.one]
theorem PH.disj_one {h : PH} {b : Nat} {o : Obj} : h.disj (PH.one b o) ↔ h b = none := by
  constructor
  · intro d
    rcases d b with e | e
    · exact e
    · simp [PH.one] at e
  · intro e x
    by_cases hx : x = b
    · subst hx; exact .inl e
    · exact .inr (by simp [PH.one, hx])
theorem PH.le_cup {a b c : PH} (h : a.le c) (k : b.le c) : (a.cup b).le c := fun x o e => by
  simp only [PH.cup] at e
  cases ha : a x with
  | some o' => rw [ha] at e; cases e; exact h _ _ ha
  | none => rw [ha] at e; exact k _ _ e
theorem PH.cup_mono {a b c : PH} (h : a.le b) (d : b.disj c) : (a.cup c).le (b.cup c) :=
  PH.le_cup (PH.le_trans h (PH.le_cup_left b c)) (PH.le_cup_right d)

/-- What is said of a part of a heap. -/
abbrev Asrt := PH → Prop
/-- All of a list, each of a part of its own. -/
def stars : List Asrt → PH → Prop
  | [], h => h = PH.emp
  | A :: L, h => ∃ h1 h2, h1.disj h2 ∧ h = h1.cup h2 ∧ A h1 ∧ stars L h2

theorem stars_append (L M : List Asrt) (h : PH) : stars (L ++ M) h ↔ ∃ h1 h2, h1.disj h2 ∧ h = h1.cup h2 ∧ stars L h1 ∧ stars M h2 := by
  induction L generalizing h with
  | nil =>
    simp only [List.nil_append, stars]
    constructor
    · intro hm; exact ⟨PH.emp, h, PH.emp_disj _, (PH.emp_cup h).symm, rfl, hm⟩
    · rintro ⟨h1, h2, _, rfl, rfl, hm⟩; rw [PH.emp_cup]; exact hm
  | cons A L ih =>
    simp only [List.cons_append, stars]
    constructor
    · rintro ⟨h1, h2, d, rfl, ha, hr⟩
      obtain ⟨h3, h4, d', rfl, hl, hm⟩ := (ih h2).1 hr
      obtain ⟨d1, d2⟩ := PH.disj_cup.1 d
      exact ⟨h1.cup h3, h4, PH.cup_disj.2 ⟨d2, d'⟩, (PH.cup_assoc _ _ _).symm, ⟨h1, h3, d1, rfl, ha, hl⟩, hm⟩
    · rintro ⟨h1, h2, d, rfl, ⟨h3, h4, d', rfl, ha, hl⟩, hm⟩
      obtain ⟨d1, d2⟩ := PH.cup_disj.1 d
      exact ⟨h3, h4.cup h2, PH.disj_cup.2 ⟨d', d1⟩, PH.cup_assoc _ _ _, ha, (ih _).2 ⟨h4, h2, d2, rfl, hl, hm⟩⟩

/-- L says all that M says (and perhaps more). -/
def Ent (L M : List Asrt) : Prop := ∀ h, stars L h → ∃ h', h'.le h ∧ stars M h'
theorem Ent.refl (L : List Asrt) : Ent L L := fun h hl => ⟨h, PH.le_refl h, hl⟩
theorem Ent.trans {L M N : List Asrt} (a : Ent L M) (b : Ent M N) : Ent L N := fun h hl => by
  obtain ⟨h1, l1, s1⟩ := a h hl
  obtain ⟨h2, l2, s2⟩ := b h1 s1
  exact ⟨h2, PH.le_trans l2 l1, s2⟩
theorem Ent.cons {L M : List Asrt} (A : Asrt) (a : Ent L M) : Ent (A :: L) (A :: M) := by
  rintro h ⟨h1, h2, d, rfl, ha, hl⟩
  obtain ⟨h3, l3, s3⟩ := a h2 hl
  have d' : h1.disj h3 := PH.disj_le d (PH.le_refl _) l3
  exact ⟨h1.cup h3, PH.le_cup (PH.le_cup_left _ _) (PH.le_trans l3 (PH.le_cup_right d)), h1, h3, d', rfl, ha, s3⟩
theorem Ent.drop (A : Asrt) (L : List Asrt) : Ent (A :: L) L := by
  rintro h ⟨h1, h2, d, rfl, _, hl⟩
  exact ⟨h2, PH.le_cup_right d, hl⟩
theorem Ent.swap (A B : Asrt) (L : List Asrt) : Ent (A :: B :: L) (B :: A :: L) := by
  rintro h ⟨h1, h2, d, rfl, ha, h3, h4, d', rfl, hb, hl⟩
  obtain ⟨d1, d2⟩ := PH.disj_cup.1 d
  refine ⟨_, PH.le_refl _, h3, h1.cup h4, PH.disj_cup.2 ⟨PH.disj_symm d1, d'⟩, ?_, hb, h1, h4, d2, rfl, ha, hl⟩
  rw [← PH.cup_assoc, ← PH.cup_assoc, PH.cup_comm d1]
theorem Ent.head {A B : Asrt} (L : List Asrt) (h : ∀ x, A x → B x) : Ent (A :: L) (B :: L) := by
  rintro x ⟨h1, h2, d, rfl, ha, hl⟩
  exact ⟨_, PH.le_refl _, h1, h2, d, rfl, h _ ha, hl⟩

/-- A stands in L; R is the rest. -/
class Pick (A : Asrt) (L : List Asrt) (R : outParam (List Asrt)) : Prop where
  out : Ent L (A :: R)
  back : Ent (A :: R) L
instance (priority := high) Pick.here (A : Asrt) (L : List Asrt) : Pick A (A :: L) L := ⟨Ent.refl _, Ent.refl _⟩
instance Pick.there (A B : Asrt) (L R : List Asrt) [p : Pick A L R] : Pick A (B :: L) (B :: R) := ⟨(Ent.cons B p.out).trans (Ent.swap B A R), (Ent.swap A B R).trans (Ent.cons B p.back)⟩
/-- All of M stand in L; R is the rest. -/
class Part (M L : List Asrt) (R : outParam (List Asrt)) : Prop where
  out : Ent L (M ++ R)
  back : Ent (M ++ R) L
instance Part.nil (L : List Asrt) : Part [] L L := ⟨Ent.refl _, Ent.refl _⟩
instance Part.cons (A : Asrt) (M L L' R : List Asrt) [p : Pick A L L'] [q : Part M L' R] : Part (A :: M) L R := ⟨p.out.trans (Ent.cons A q.out), (Ent.cons A q.back).trans p.back⟩

/-- What stays of a world through a call. -/
structure Base (W0 w : World) : Prop where
  os : w.os = W0.os
  tape : w.tape = W0.tape
  output : w.output = W0.output
  size : W0.heap.size ≤ w.heap.size
def Sat (w : World) (h : PH) : Prop := ∀ b o, h b = some o → w.heap[b]? = some o

/-- In w lies the pile B, which nobody writes, and, apart from it, L. -/
def Holds (W0 : World) (B : PH) (L : List Asrt) (w : World) : Prop := Base W0 w ∧ Sat w B ∧ ∃ h, B.disj h ∧ stars L h ∧ Sat w h

theorem Base.drew {W0 w : World} (h : Base W0 w) : Base W0 { w with drawn := w.drawn + 1 } := ⟨h.os, h.tape, h.output, h.size⟩
theorem Holds.drew {W0 : World} {B : PH} {L : List Asrt} {w : World} (h : Holds W0 B L w) : Holds W0 B L { w with drawn := w.drawn + 1 } :=
  ⟨h.1.drew, h.2.1, h.2.2⟩
theorem Holds.ent {W0 : World} {B : PH} {L M : List Asrt} {w : World} (h : Holds W0 B L w) (e : Ent L M) : Holds W0 B M w := by
  obtain ⟨b, p, k, d, s, t⟩ := h
  obtain ⟨k', l, s'⟩ := e k s
  exact ⟨b, p, k', PH.disj_le d (PH.le_refl _) l, s', fun x o hx => t x o (l x o hx)⟩
theorem Holds.pile {W0 : World} {B : PH} {L : List Asrt} {w : World} (h : Holds W0 B L w) {b : Nat} {o : Obj} (hb : B b = some o) : w.heap[b]? = some o := h.2.1 b o hb

/-- Block b is the object o. -/
def ob (b : Nat) (o : Obj) : Asrt := fun h => h = PH.one b o
theorem Holds.get {W0 : World} {B : PH} {L : List Asrt} {w : World} {b : Nat} {o : Obj} (h : Holds W0 B (ob b o :: L) w) : w.heap[b]? = some o := by
  obtain ⟨_, _, k, _, ⟨h1, h2, d, rfl, rfl, _⟩, t⟩ := h
  exact t b o (PH.le_cup_left _ _ _ _ (PH.one_same b o))
theorem Sat.lt {w : World} {h : PH} (s : Sat w h) {b : Nat} {o : Obj} (hb : h b = some o) : b < w.heap.size := (Array.getElem?_eq_some_iff.1 (s b o hb)).1

/-- A new block. -/
theorem Holds.alloc {W0 : World} {B : PH} {L : List Asrt} {w : World} (o : Obj) (h : Holds W0 B L w) : Holds W0 B (ob w.heap.size o :: L) { w with heap := w.heap.push o } := by
  obtain ⟨b, p, k, d, s, t⟩ := h
  have old : ∀ {x : PH}, Sat w x → Sat { w with heap := w.heap.push o } x := fun {x} hx c o' hc => by
    have := hx c o' hc
    have hlt := hx.lt hc
    show (w.heap.push o)[c]? = some o'
    rw [Array.getElem?_push, if_neg (by omega)]; exact this
  have none_at : ∀ {x : PH}, Sat w x → x w.heap.size = none := fun {x} hx => by
    cases e : x w.heap.size with
    | none => rfl
    | some o' => have := hx.lt e; omega
  refine ⟨⟨b.os, b.tape, b.output, Nat.le_trans b.size (by simp)⟩, old p, (PH.one w.heap.size o).cup k, ?_, ⟨_, k, PH.disj_symm (PH.disj_one.2 (none_at t)), rfl, rfl, s⟩, ?_⟩
  · exact PH.disj_cup.2 ⟨PH.disj_one.2 (none_at p), d⟩
  · intro c o' hc
    simp only [PH.cup, PH.one] at hc
    by_cases e : c = w.heap.size
    · subst e; simp at hc; subst hc; simp
    · simp only [e, if_false] at hc; exact old t c o' hc

/-- Whatever world has the new object in b and all else as it was. -/
theorem Holds.upd {W0 : World} {B : PH} {L : List Asrt} {w w' : World} {b : Nat} {o o' : Obj} (h : Holds W0 B (ob b o :: L) w) (hb : Base W0 w')
    (hsame : w'.heap[b]? = some o') (hother : ∀ c, c ≠ b → w'.heap[c]? = w.heap[c]?) : Holds W0 B (ob b o' :: L) w' := by
  obtain ⟨_, p, k, d, ⟨h1, h2, d', rfl, rfl, s⟩, t⟩ := h
  have hb2 : h2 b = none := PH.disj_one.1 (PH.disj_symm d')
  obtain ⟨e1, e2⟩ := PH.disj_cup.1 d
  have hB : B b = none := PH.disj_one.1 e1
  refine ⟨hb, fun c o1 hc => ?_, (PH.one b o').cup h2, PH.disj_cup.2 ⟨PH.disj_one.2 hB, e2⟩, ⟨_, h2, PH.disj_symm (PH.disj_one.2 hb2), rfl, rfl, s⟩, fun c o1 hc => ?_⟩
  · have : c ≠ b := fun e => by subst e; rw [hB] at hc; cases hc
    rw [hother c this]; exact p c o1 hc
  · simp only [PH.cup, PH.one] at hc
    by_cases e : c = b
    · subst e; simp at hc; subst hc; exact hsame
    · simp only [e, if_false] at hc
      rw [hother c e]; exact t c o1 (PH.le_cup_right d' _ _ hc)

/-- What nobody writes any more goes onto the pile. -/
theorem Holds.freeze {W0 : World} {B : PH} {L : List Asrt} {w : World} {A : Asrt} (h : Holds W0 B (A :: L) w) : ∃ k, A k ∧ B.disj k ∧ Holds W0 (B.cup k) L w := by
  obtain ⟨b, p, k, d, ⟨h1, h2, d', rfl, ha, s⟩, t⟩ := h
  obtain ⟨e1, e2⟩ := PH.disj_cup.1 d
  refine ⟨h1, ha, e1, b, fun c o hc => ?_, h2, PH.cup_disj.2 ⟨e2, d'⟩, s, fun c o hc => t c o (PH.le_cup_right d' _ _ hc)⟩
  simp only [PH.cup] at hc
  cases hB : B c with
  | some o' => rw [hB] at hc; cases hc; exact p c o hB
  | none => rw [hB] at hc; exact t c o (PH.le_cup_left _ _ _ _ hc)

theorem Holds.ex {W0 : World} {B : PH} {L : List Asrt} {w : World} {α : Type} {A : α → Asrt} (h : Holds W0 B ((fun k => ∃ x, A x k) :: L) w) : ∃ x, Holds W0 B (A x :: L) w := by
  obtain ⟨b, p, k, d, ⟨h1, h2, d', rfl, ⟨x, ha⟩, s⟩, t⟩ := h
  exact ⟨x, b, p, _, d, ⟨h1, h2, d', rfl, ha, s⟩, t⟩
/-- A thing that is made of others, of which something is known. -/
def aex {α : Type} (p : α → Prop) (M : α → List Asrt) : Asrt := fun h => ∃ x, p x ∧ stars (M x) h
theorem Holds.aex {W0 : World} {B : PH} {L : List Asrt} {w : World} {α : Type} {p : α → Prop} {M : α → List Asrt} (h : Holds W0 B (Sc.aex p M :: L) w) : ∃ x, p x ∧ Holds W0 B (M x ++ L) w := by
  obtain ⟨b, q, k, d, ⟨h1, h2, d', rfl, ⟨x, hp, ha⟩, s⟩, t⟩ := h
  exact ⟨x, hp, b, q, _, d, (stars_append _ _ _).2 ⟨h1, h2, d', rfl, ha, s⟩, t⟩
theorem Ent.aex {α : Type} {p : α → Prop} {M : α → List Asrt} (x : α) (hp : p x) (L : List Asrt) : Ent (M x ++ L) (Sc.aex p M :: L) := fun h hs => by
  obtain ⟨h1, h2, d, rfl, s1, s2⟩ := (stars_append _ _ _).1 hs
  exact ⟨_, PH.le_refl _, h1, h2, d, rfl, ⟨x, hp, s1⟩, s2⟩

/-! ### Blocks of cells, by segments -/
inductive Seg where
  | one (v : Value)
  | row (n : Nat) (cs : List Value)
def Seg.cells : Seg → List Value
  | .one v => [v]
  | .row _ cs => cs
def flat : List Seg → List Value
  | [] => []
  | s :: r => s.cells ++ flat r
/-- Is a value one cell's? -/
def Seg.ok : Seg → Prop
  | .one v => v.oneCell' = true
  | .row n cs => cs.length = n ∧ ∀ v ∈ cs, v.oneCell' = true
def oks : List Seg → Prop
  | [] => True
  | s :: r => s.ok ∧ oks r
/-- An array's or a struct's value. -/
def agg (s : List Seg) : Value := .agg (flat s).toArray

/-- Block b holds cells. -/
def bk (b : Nat) (t : TypeId) (s : List Seg) : Asrt := fun h => oks s ∧ h = PH.one b (.cells (flat s).toArray t (0, 0))
theorem Holds.bk {W0 : World} {B : PH} {L : List Asrt} {w : World} {b : Nat} {t : TypeId} {s : List Seg} (h : Holds W0 B (Sc.bk b t s :: L) w) : oks s ∧ Holds W0 B (ob b (.cells (flat s).toArray t (0, 0)) :: L) w := by
  obtain ⟨c, p, k, d, ⟨h1, h2, d', rfl, ⟨ho, rfl⟩, s'⟩, t'⟩ := h
  exact ⟨ho, c, p, _, d, ⟨_, h2, d', rfl, rfl, s'⟩, t'⟩
theorem Ent.bk {b : Nat} {t : TypeId} {s : List Seg} (ho : oks s) (L : List Asrt) : Ent (ob b (.cells (flat s).toArray t (0, 0)) :: L) (Sc.bk b t s :: L) :=
  Ent.head L fun _ h => ⟨ho, h⟩

/-- The value of the cell at an offset. -/
def sget : List Seg → Nat → Option Value
  | [], _ => none
  | .one v :: r, k => bif Nat.beq k 0 then some v else sget r (k - 1)
  | .row n _ :: r, k => bif Nat.blt k n then none else sget r (k - n)
/-- The segments from an offset on, so many cells. -/
def stake : List Seg → Nat → Option (List Seg)
  | [], k => bif Nat.beq k 0 then some [] else none
  | s :: r, k => bif Nat.beq k 0 then some [] else
    match s with
    | .one v => match stake r (k - 1) with
      | some x => some (.one v :: x)
      | none => none
    | .row n cs => bif Nat.ble n k then (match stake r (k - n) with
      | some x => some (.row n cs :: x)
      | none => none) else none
def ssub : List Seg → Nat → Nat → Option (List Seg)
  | [], k, m => bif Nat.beq k 0 then stake [] m else none
  | s :: r, k, m => bif Nat.beq k 0 then stake (s :: r) m else
    match s with
    | .one _ => ssub r (k - 1) m
    | .row n _ => bif Nat.ble n k then ssub r (k - n) m else none
def swidth : List Seg → Nat
  | [] => 0
  | .one _ :: r => 1 + swidth r
  | .row n _ :: r => n + swidth r
/-- Drops so many cells. -/
def sdrop : List Seg → Nat → Option (List Seg)
  | s, 0 => some s
  | [], _ + 1 => none
  | .one _ :: r, k + 1 => sdrop r k
  | .row n _ :: r, k + 1 => bif Nat.ble n (k + 1) then sdrop r (k + 1 - n) else none
/-- The segments with others laid over them from an offset on. -/
def sput : List Seg → Nat → List Seg → Option (List Seg)
  | [], _, _ => none
  | s :: r, k, x => bif Nat.beq k 0 then (match sdrop (s :: r) (swidth x) with
      | some y => some (x ++ y)
      | none => none) else
    match s with
    | .one v => (match sput r (k - 1) x with
      | some y => some (.one v :: y)
      | none => none)
    | .row n cs => bif Nat.ble n k then (match sput r (k - n) x with
      | some y => some (.row n cs :: y)
      | none => none) else none
end Sc
