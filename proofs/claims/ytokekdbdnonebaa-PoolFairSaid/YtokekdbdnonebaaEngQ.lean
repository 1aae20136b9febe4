/- More on slices that are owned. -/
import Derived.Test.YtokekdbdnonebaaEngP
namespace Sc
open Go
section
variable {P : Program} {ro : Option Nat} {Q : Exit → Act → World → Prop} {W0 : World} {n : Nat} {K : Act → World → Prop} {E : Env} {ds : List Deferred} {B : PH} {L : List Asrt}
/-- The form of what is owned. -/
theorem k_owf {e sz m : Nat} {v : Value} {cs : List Value} {R : List Asrt} [p : PickW v L e sz m cs R] (h : (∃ a c, v = .slice a m c) → cs.length = m * sz → (∀ u ∈ cs, u.oneCell' = true) → KGo W0 n K E ds B L) : KGo W0 n K E ds B L := fun a w ha hw => by
  rcases (hw.ent p.out).ow with ⟨rfl, rfl, rfl, _⟩ | ⟨b, cap, sp, rfl, h1, h2, h3, h4, _⟩
  · exact h ⟨none, 0, rfl⟩ (by simp) (fun u hu => by cases hu) a w ha hw
  · exact h ⟨_, cap, rfl⟩ h1 (fun u hu => h4 u (List.mem_append_left _ hu)) a w ha hw
theorem IsB.src {R : List Asrt} {v : Value} {l : List UInt8} (h : IsB B v l) : Src P 1 B R v l.length (cBs l) := src_pile h (by rw [cBs_length, Nat.mul_one]) (cBs_one l)
theorem IsB.form {v : Value} {l : List UInt8} (h : IsB B v l) : ∃ a c, v = .slice a l.length c := by obtain ⟨a, c, rfl, _⟩ := h; exact ⟨a, c, rfl⟩
theorem IsBB.form {v : Value} {l : List (List UInt8)} (h : IsBB B v l) : ∃ a c, v = .slice a l.length c := by obtain ⟨us, _, ⟨a, c, rfl, _⟩, _⟩ := h; exact ⟨a, c, rfl⟩
theorem IsIDs.form {v : Value} {l : List ID} (h : IsIDs B v l) : ∃ a c, v = .slice a l.length c := by obtain ⟨a, c, rfl, _⟩ := h; exact ⟨a, c, rfl⟩
/-- An element of an array's value. -/
theorem y_ix {t e m ty : Nat} {x y : Operand} {s : List Seg} {k : IntKind} {i : Int} {v : Value} [hu : TyU P t (.array m e)] [hs : TyS P e 1] [hag : TyA P e false] (hx : ev E x = some (agg s)) (hy : ev E y = some (.int k i)) (j : Nat) (hj : i = (j : Int)) (hlt : j < m) (hv : (flat s)[j]? = some v) :
    Yld P (.index t x y) ty E B L v := fun _ _ _ a w _ _ _ _ ha _ => by
  subst hj
  simp only [execOp, ha.eval hx, ha.eval hy, Sem.run_bind]
  simp [Instr.index, asIntOf, agg, hu.run, hs.run, hlt, part, hag.run, hv]
end
end Sc
