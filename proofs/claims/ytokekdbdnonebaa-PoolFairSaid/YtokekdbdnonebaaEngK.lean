/- Loops and meeting points that keep what they do not touch; marks taken off. -/
import Derived.Test.YtokekdbdnonebaaEngJ
namespace Sc
open Go

def memB : List Nat → Nat → Bool
  | [], _ => false
  | s :: r, t => bif Nat.beq s t then true else memB r t
/-- What is known, but for these. -/
def ewo (ts : List Nat) : Env → Env
  | [] => []
  | (t, v) :: E => bif memB ts t then ewo ts E else (t, v) :: ewo ts E
theorem ewo_out {ts : List Nat} {t : Nat} (h : memB ts t = true) : ∀ {E : Env}, look (ewo ts E) t = none
  | [] => rfl
  | (s, v) :: E => by
    simp only [ewo]
    cases hs : memB ts s with
    | true => exact ewo_out h
    | false =>
      simp only [cond_false, look]
      have : Nat.beq s t = false := by
        cases hb : Nat.beq s t with
        | false => rfl
        | true => rw [Nat.eq_of_beq_eq_true hb, h] at hs; cases hs
      rw [this]; exact ewo_out h
theorem ewo_look {ts : List Nat} {t : Nat} {v : Value} : ∀ {E : Env}, look (ewo ts E) t = some v → look E t = some v
  | (s, u) :: E, h => by
    simp only [ewo] at h
    cases hs : memB ts s with
    | true =>
      rw [hs] at h
      have h' : look (ewo ts E) t = some v := h
      have hne : Nat.beq s t = false := by
        cases hb : Nat.beq s t with
        | false => rfl
        | true => rw [← Nat.eq_of_beq_eq_true hb, ewo_out hs] at h'; cases h'
      simp only [look, hne, cond_false]
      exact ewo_look h'
    | false =>
      rw [hs] at h
      simp only [cond_false, look] at h ⊢
      cases hb : Nat.beq s t with
      | true => rw [hb] at h; exact h
      | false => rw [hb] at h; exact ewo_look h
def subB : List Nat → List Nat → Bool
  | [], _ => true
  | t :: r, ts => memB ts t && subB r ts
theorem subB_mem {ts : List Nat} {t : Nat} (h : memB ts t = false) : ∀ {N : List Nat}, subB N ts = true → memB N t = false
  | [], _ => rfl
  | s :: N, hn => by
    simp only [subB, Bool.and_eq_true] at hn
    simp only [memB]
    have : Nat.beq s t = false := by
      cases hb : Nat.beq s t with
      | false => rfl
      | true => rw [Nat.eq_of_beq_eq_true hb, h] at hn; cases hn.1
    rw [this]; exact subB_mem h hn.2
theorem subB_app {ts : List Nat} : ∀ {N M : List Nat}, subB (N ++ M) ts = true → subB N ts = true ∧ subB M ts = true
  | [], _, h => ⟨rfl, h⟩
  | s :: N, M, h => by
    simp only [List.cons_append, subB, Bool.and_eq_true] at h ⊢
    obtain ⟨h1, h2⟩ := h
    obtain ⟨h3, h4⟩ := subB_app h2
    exact ⟨⟨h1, h3⟩, h4⟩
theorem ewo_in {ts : List Nat} {t : Nat} (h : memB ts t = false) : ∀ {E : Env}, look (ewo ts E) t = look E t
  | [] => rfl
  | (s, v) :: E => by
    simp only [ewo]
    cases hs : memB ts s with
    | true =>
      have hne : Nat.beq s t = false := by
        cases hb : Nat.beq s t with
        | false => rfl
        | true => rw [Nat.eq_of_beq_eq_true hb, h] at hs; cases hs
      simp only [cond_true, look, hne, cond_false]
      exact ewo_in h
    | false =>
      simp only [cond_false, look]
      rw [ewo_in h]
/-- F ends E; what stands ahead tells only of N. -/
class Tail (E F : Env) (N : outParam (List Nat)) : Prop where
  out : ∀ t, memB N t = false → look E t = look F t
instance (priority := high) Tail.here (F : Env) : Tail F F [] := ⟨fun _ _ => rfl⟩
instance (priority := high) Tail.wo (ts : List Nat) (F : Env) : Tail F (ewo ts F) ts := ⟨fun _ ht => (ewo_in ht).symm⟩
instance Tail.there (p : Nat × Value) (E F : Env) (N : List Nat) [h : Tail E F N] : Tail (p :: E) F (p.1 :: N) := ⟨fun t ht => by
  obtain ⟨s, v⟩ := p
  simp only [memB] at ht
  cases hb : Nat.beq s t with
  | true => rw [hb] at ht; cases ht
  | false => rw [hb] at ht; simp only [look, hb, cond_false]; exact h.out t ht⟩
theorem memB_app {t : Nat} : ∀ {N M : List Nat}, memB (N ++ M) t = false → memB N t = false ∧ memB M t = false
  | [], _, h => ⟨rfl, h⟩
  | s :: N, M, h => by
    simp only [List.cons_append, memB] at h ⊢
    cases hb : Nat.beq s t with
    | true => rw [hb] at h; cases h
    | false => rw [hb] at h; exact memB_app h
instance Tail.through (ts : List Nat) (E F : Env) (N : List Nat) [h : Tail E F N] : Tail (ewo ts E) F (ts ++ N) := ⟨fun t ht => by
  obtain ⟨h1, h2⟩ := memB_app ht
  rw [ewo_in h1]; exact h.out t h2⟩
theorem look_app {t : Nat} {v : Value} : ∀ {N F : Env}, look (N ++ F) t = some v → look N t = some v ∨ (look N t = none ∧ look F t = some v)
  | [], F, h => .inr ⟨rfl, h⟩
  | (s, u) :: N, F, h => by
    simp only [List.cons_append, look] at h ⊢
    cases hb : Nat.beq s t with
    | true => rw [hb] at h; exact .inl h
    | false => rw [hb] at h; exact look_app h
theorem look_app_none {t : Nat} : ∀ {N F : Env}, look N t = none → look (N ++ F) t = look F t
  | [], F, h => rfl
  | (s, u) :: N, F, h => by
    simp only [List.cons_append, look] at h ⊢
    cases hb : Nat.beq s t with
    | true => rw [hb] at h; cases h
    | false => rw [hb] at h; exact look_app_none h
instance Part.append (M N L L' R : List Asrt) [p : Part M L L'] [q : Part N L' R] : Part (M ++ N) L R := ⟨by
  rw [List.append_assoc]
  refine p.out.trans ?_
  have : ∀ (M : List Asrt) {A B : List Asrt}, Ent A B → Ent (M ++ A) (M ++ B) := fun M A B h => by
    induction M with
    | nil => exact h
    | cons a M ih => exact Ent.cons a ih
  exact this M q.out, by
  rw [List.append_assoc]
  have : ∀ (M : List Asrt) {A B : List Asrt}, Ent A B → Ent (M ++ A) (M ++ B) := fun M A B h => by
    induction M with
    | nil => exact h
    | cons a M ih => exact Ent.cons a ih
  exact (this M q.back).trans p.back⟩

section
variable {P : Program} {ro : Option Nat} {Q : Exit → Act → World → Prop} {W0 : World} {n : Nat} {K : Act → World → Prop} {E : Env} {ds : List Deferred} {B : PH} {L : List Asrt}

theorem Knows.seml {E F : Env} {a : Act} (h : Knows n E ds a) (s : ∀ t v, look F t = some v → look E t = some v) : Knows n F ds a := ⟨h.size, h.defers, fun t v e => h.env t v (s t v e)⟩
def uapp (U F : Env) : Env := U ++ F
def lapp (C R : List Asrt) : List Asrt := C ++ R
theorem k_loop2 {α : Type} {c : Code} (ts : List Nat) (Inv : α → Prop) (U : α → Env) (SB : α → PH) (C : α → List Asrt) (μ : α → Nat) (x0 : α) {Rest : List Asrt} (h0 : Inv x0) (hB : B = SB x0) (hU : Sub E (U x0)) (C0 : List Asrt) (hC : C0 = C x0) [p : Part C0 L Rest]
    (round : ∀ x, Inv x → KGo W0 n (wp P ro c (Exit.then (Again W0 n ds (fun y => Inv y ∧ μ y < μ x) (fun y => uapp (U y) (ewo ts E)) SB (fun y => lapp (C y) Rest)) Q)) (U x ++ ewo ts E) ds (SB x) (C x ++ Rest)) : KGo W0 n (wp P ro (.loop c) Q) E ds B L := by
  refine k_loop Inv (fun y => uapp (U y) (ewo ts E)) SB (fun y => lapp (C y) Rest) μ ?_ round
  subst hC
  intro a w ha hw
  refine ⟨x0, h0, ha.seml fun t v h => ?_, hB ▸ hw.ent p.out⟩
  rcases look_app h with h1 | ⟨_, h1⟩
  · exact hU.look t v h1
  · exact ewo_look h1
theorem k_again2 {α : Type} {Inv : α → Prop} {U : α → Env} {F : Env} {ts : List Nat} {SB : α → PH} {C : α → List Asrt} {Rest : List Asrt} (y : α) {R : List Asrt} {N : List Nat} (hi : Inv y) [hT : Tail E (ewo ts F) N] (hN : subB N ts = true) (hE : Sub E (U y)) (hB : B = SB y) [p : Part (C y ++ Rest) L R] :
    KGo W0 n (Again W0 n ds Inv (fun y => uapp (U y) (ewo ts F)) SB (fun y => lapp (C y) Rest)) E ds B L := fun a w ha hw => by
  have h1 : Holds W0 B ((C y ++ Rest) ++ R) w := hw.ent p.out
  have h2 : Ent ((C y ++ Rest) ++ R) (C y ++ Rest) := fun h hs => by
    obtain ⟨k1, k2, _, rfl, s1, _⟩ := (stars_append _ _ _).1 hs
    exact ⟨k1, PH.le_cup_left _ _, s1⟩
  refine ⟨y, hi, ha.seml fun t v h => ?_, hB ▸ h1.ent h2⟩
  rcases look_app h with h1 | ⟨_, h1⟩
  · exact hE.look t v h1
  · have hm : memB ts t = false := by
      cases hm : memB ts t with
      | false => rfl
      | true => rw [ewo_out hm] at h1; cases h1
    rw [hT.out t (subB_mem hm hN)]; exact h1
/-- Where ways meet again. -/
theorem k_cutx {α : Type} {x y : Code} (ts : List Nat) (Inv : α → Prop) (U : α → Env) (SB : α → PH) (C : α → List Asrt) (A0 : List Asrt) {Rest : List Asrt} [p : Part A0 L Rest]
    (hx : KGo W0 n (wp P ro x (Exit.then (Again W0 n ds Inv (fun z => uapp (U z) (ewo ts E)) SB (fun z => lapp (C z) Rest)) Q)) E ds B (A0 ++ Rest)) (hy : ∀ z, Inv z → KGo W0 n (wp P ro y Q) (U z ++ ewo ts E) ds (SB z) (C z ++ Rest)) : KGo W0 n (wp P ro (x.seq y) Q) E ds B L :=
  k_ent p.out (k_seqJ _ hx (k_of_again hy))
/-- The mark of a range over a function, taken off where the function ends. -/
theorem k_unmark {fn : Func} {Post : Value → PH → List Asrt → Prop} {B0 : PH} {F : Asrt} {D : Nat} {R : List Asrt} [p : PickO D L (.deferred (some [])) R] (h : KGo W0 n (RetQ P fn W0 B0 F Post .ret) E ds B R) : KGo W0 n (RetQ P fn W0 B0 F Post .ret) E (dmark D :: ds) B L := fun a w ha hw => by
  have h1 := hw.ent p.out
  have hg := h1.get
  have hlt : D < w.heap.size := (Array.getElem?_eq_some_iff.1 hg).1
  have hb := h1.1
  have h2 := (h1.upd (w' := w.putObj D (.deferred none)) ⟨hb.os, hb.tape, hb.output, by simpa using hb.size⟩ (World.putObj_heap_same hlt) (fun c hc => World.putObj_heap_other hc)).ent (Ent.drop _ _)
  have h3 := h { a with defers := ds } _ ⟨ha.size, rfl, ha.env⟩ h2
  show LeavesInM _ _ _ _ _ _ a.defers _ _
  rw [ha.defers]
  exact ⟨(by simp), .inl ⟨D, _, rfl, run_takeDeferred hg, h3⟩⟩
theorem k_retm {fn : Func} {Post : Value → PH → List Asrt → Prop} {B0 : PH} {R : Asrt} (h : KGo W0 n (RetQ P fn W0 B0 R Post .ret) E ds B L) : KGo W0 n (RetQ P fn W0 B0 R Post .normal) E ds B L := h
end
end Sc
