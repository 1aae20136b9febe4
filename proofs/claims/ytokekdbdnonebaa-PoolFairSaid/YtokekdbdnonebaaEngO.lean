/- Iterators, with what the loop keeps as one lump. -/
import Derived.Test.YtokekdbdnonebaaEngN
namespace Sc
open Go
section
variable {P : Program} {ro : Option Nat} {Q : Exit → Act → World → Prop} {W0 : World} {n : Nat} {K : Act → World → Prop} {E : Env} {ds : List Deferred} {B : PH} {L : List Asrt}
theorem Ent.app (X : List Asrt) {M N : List Asrt} (h : Ent M N) : Ent (X ++ M) (X ++ N) := by
  induction X with
  | nil => exact h
  | cons a X ih => exact Ent.cons a ih
theorem Ent.lumpL (M Y : List Asrt) : Ent (M ++ Y) (stars M :: Y) := fun h hs => by
  obtain ⟨h1, h2, d, rfl, s1, s2⟩ := (stars_append _ _ _).1 hs
  exact ⟨_, PH.le_refl _, h1, h2, d, rfl, s1, s2⟩
theorem Ent.unlumpL (M Y : List Asrt) : Ent (stars M :: Y) (M ++ Y) := fun h hs => by
  obtain ⟨h1, h2, d, rfl, s1, s2⟩ := hs
  exact ⟨_, PH.le_refl _, (stars_append _ _ _).2 ⟨h1, h2, d, rfl, s1, s2⟩⟩
/-- An iterator's promise, with what the loop keeps as one lump. -/
def IterA (P : Program) (gf : FuncId) (ca : List Value) (B : PH) (Own : List Asrt) (N : Nat) (el : Nat → PH → List Value → Prop) : Prop :=
  ∀ (l : Nat) (J : Nat → PH → Asrt → Prop) (Z : PH → Asrt → Prop) (B0 : PH), B.le B0 →
    (∀ i B1 B2 A, B1.le B2 → J i B1 A → J i B2 A) → (∀ B1 B2 A, B1.le B2 → Z B1 A → Z B2 A) →
    (∀ i vs B1 A, i < N → B0.le B1 → el i B1 vs → J i B1 A → YTri P l vs B1 [A] fun ok B2 L2 => ∃ A2, L2 = [A2] ∧ ((ok = true ∧ J (i + 1) B2 A2) ∨ (ok = false ∧ Z B2 A2))) →
    ∀ A0, J 0 B0 A0 → Tri P gf (.func (.yield l) #[] #[] :: ca) B0 (Own ++ [A0]) fun _ B' L' => ∃ A1, L' = Own ++ [A1] ∧ (J N B' A1 ∨ Z B' A1)
theorem Iter.ofA {gf : FuncId} {ca : List Value} {Own : List Asrt} {N : Nat} {el : Nat → PH → List Value → Prop} (h : IterA P gf ca B Own N el) : Iter P gf ca B Own N el := by
  intro l J Z B0 h0 hJm hZm hy L0 hJ
  have := h l (fun i B A => ∃ L, A = stars L ∧ J i B L) (fun B A => ∃ L, A = stars L ∧ Z B L) B0 h0 (fun i B1 B2 A hl ⟨M, e, h⟩ => ⟨M, e, hJm i B1 B2 M hl h⟩) (fun B1 B2 A hl ⟨M, e, h⟩ => ⟨M, e, hZm B1 B2 M hl h⟩) ?_ (stars L0) ⟨L0, rfl, hJ⟩
  · intro W0 R w hw
    have e1 : Ent ((Own ++ L0) ++ [R]) ((Own ++ [stars L0]) ++ [R]) := by
      rw [List.append_assoc, List.append_assoc]
      exact Ent.app Own (Ent.lumpL L0 [R])
    refine (this W0 R w (hw.ent e1)).mono ?_
    rintro e w' ⟨v, B', L', h1, h2, ⟨A1, rfl, h3⟩, h4⟩
    have key : ∀ L1, A1 = stars L1 → Holds W0 B' ((Own ++ L1) ++ [R]) w' := fun L1 e => by
      subst e
      refine h4.ent ?_
      rw [List.append_assoc, List.append_assoc]
      exact Ent.app Own (Ent.unlumpL L1 [R])
    rcases h3 with ⟨L1, rfl, h5⟩ | ⟨L1, rfl, h5⟩
    · exact ⟨v, B', Own ++ L1, h1, h2, ⟨L1, rfl, .inl h5⟩, key L1 rfl⟩
    · exact ⟨v, B', Own ++ L1, h1, h2, ⟨L1, rfl, .inr h5⟩, key L1 rfl⟩
  · rintro i vs B1 A hi hB hel ⟨L1, rfl, hJ1⟩ W0 R w hw
    have e1 : Ent ([stars L1] ++ [R]) (L1 ++ [R]) := Ent.unlumpL L1 [R]
    obtain ⟨fn, tmps, assign, body, hr, hd⟩ := hy i vs B1 L1 hi hB hel hJ1 W0 R w (hw.ent e1)
    refine ⟨fn, tmps, assign, body, hr, hd.mono ?_⟩
    rintro e w' ⟨ok, B', L', h1, h2, h3, h4⟩
    refine ⟨ok, B', [stars L'], h1, h2, ⟨stars L', rfl, ?_⟩, h4.ent (Ent.lumpL L' [R])⟩
    exact h3.imp (fun ⟨a, b⟩ => ⟨a, L', rfl, b⟩) fun ⟨a, b⟩ => ⟨a, L', rfl, b⟩
/-- A truth of which both ways are walked. -/
theorem k_decb {t : Nat} {b : Bool} (h1 : b = true → KGo W0 n K ((t, .bool true) :: E) ds B L) (h2 : b = false → KGo W0 n K ((t, .bool false) :: E) ds B L) : KGo W0 n K ((t, .bool b) :: E) ds B L := by
  cases b with
  | true => exact h1 rfl
  | false => exact h2 rfl
/-- An element of what lies on the pile. -/
theorem prd.get {v : Value} {m sz : Nat} {cs : List Value} (h : prd B v m cs) (hm : 0 < cs.length) : ∃ b o c, v = .slice (some ⟨b, o, none⟩) m c ∧ prow B b o cs := by
  obtain ⟨a, c, rfl, _, h1⟩ := h
  have hne : cs ≠ [] := fun e => by subst e; simp at hm
  obtain ⟨b, o, rfl, h2⟩ := h1 hne
  exact ⟨b, o, c, rfl, h2⟩
end
end Sc
