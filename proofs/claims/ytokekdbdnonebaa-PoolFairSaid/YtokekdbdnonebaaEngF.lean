/- More of the ground: tables, slices that are owned, appends. -/
import Derived.Test.YtokekdbdnonebaaEngE
namespace Sc
open Go
theorem all_one {l : List Value} (h : l.all (fun v => v.oneCell') = true) : ∀ v ∈ l, v.oneCell' = true := fun v hv => List.all_eq_true.1 h v hv
section
variable {P : Program}
theorem fill_mono {p q : Nat → Option (Nat × Nat)} (h : ∀ i x, p i = some x → q i = some x) : ∀ (ps : List (Nat × Value)) (z c : Array Value), Instr.fill p z ps = some c → Instr.fill q z ps = some c
  | [], z, c, e => e
  | (i, v) :: ps, z, c, e => by
    simp only [Instr.fill] at e ⊢
    cases hp : p i with
    | none => rw [hp] at e; cases e
    | some x =>
      rw [hp] at e; rw [h i x hp]
      obtain ⟨off, size⟩ := x
      simp only at e ⊢
      split at e
      · cases e
      · rename_i hn
        rw [if_neg hn]
        exact fill_mono h ps _ _ e
theorem tyP_array {t len e sz : Nat} (hu : ∀ w, (underlying t).run P w = .ok (.array len e) w) (hs : ∀ w, (Go.sizeOf e).run P w = .ok sz w) : TyP P t ((List.range len).map fun i => (i * sz, sz)) := ⟨fun w ps z cells hz hf => by
  have := fill_mono (q := fun i => some (i * sz, sz)) (fun i x hx => by
    simp only [List.getElem?_map] at hx
    cases hr : (List.range len)[i]? with
    | none => rw [hr] at hx; cases hx
    | some j =>
      rw [hr] at hx
      have := (List.getElem?_eq_some_iff.1 hr).2
      simp at this
      subst this
      simpa using hx) _ _ _ hf
  simp [Instr.build, hz, hu, hs, this]⟩
theorem build_fin {offs : List (Nat × Nat)} {z cells : Array Value} {ps : List (Nat × Value)} {w : World} {why : String} (hf : Instr.fill (fun i => offs[i]?) z ps = some cells) :
    (match Instr.fill (fun x => offs.toArray[x]?) z ps with
      | some c => (pure (.agg c) : Sem Value)
      | _ => stuck why).run P w = .ok (.agg cells) w := by
  have : (fun (x : Nat) => offs.toArray[x]?) = fun (i : Nat) => offs[i]? := by funext x; simp
  rw [this, hf]; rfl
variable {ro : Option Nat} {Q : Exit → Act → World → Prop} {W0 : World} {n : Nat} {K : Act → World → Prop} {E : Env} {ds : List Deferred} {B : PH} {L : List Asrt}
/-- Where ways meet again. -/
def At (W0 : World) (n : Nat) (F : Env) (ds : List Deferred) (B : PH) (M : List Asrt) : Act → World → Prop := fun a w => Knows n F ds a ∧ Holds W0 B M w
theorem k_cut {x y : Code} (F : Env) {M : List Asrt} (hx : KGo W0 n (wp P ro x (Exit.then (At W0 n F ds B M) Q)) E ds B L) (hy : KGo W0 n (wp P ro y Q) F ds B M) : KGo W0 n (wp P ro (x.seq y) Q) E ds B L :=
  k_seqJ (At W0 n F ds B M) hx fun a w h => hy a w h.1 h.2
theorem k_at {F : Env} {M R : List Asrt} (hE : Sub E F) [p : Part M L R] : KGo W0 n (At W0 n F ds B M) E ds B L := fun a w ha hw => by
  refine ⟨ha.sub hE, (hw.ent p.out).ent fun h hs => ?_⟩
  obtain ⟨k1, k2, _, rfl, s1, _⟩ := (stars_append _ _ _).1 hs
  exact ⟨k1, PH.le_cup_left _ _, s1⟩
end
end Sc
