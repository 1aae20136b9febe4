/- Rows that are owned, read in place. -/
import Derived.Test.YtokekdbdnonebaaEngT
namespace Sc
open Go
section
variable {P : Program} {ro : Option Nat} {Q : Exit → Act → World → Prop} {W0 : World} {n : Nat} {K : Act → World → Prop} {E : Env} {ds : List Deferred} {B : PH} {L : List Asrt}
/-- What is owned and has elements lies in a block. -/
theorem k_owform {e sz m : Nat} {v : Value} {cs : List Value} {R : List Asrt} [p : PickW v L e sz m cs R] (hm : 0 < m) (h : ∀ b cap, v = .slice (some ⟨b, 0, none⟩) m cap → m ≤ cap → KGo W0 n K E ds B L) : KGo W0 n K E ds B L := fun a w ha hw => by
  rcases (hw.ent p.out).ow with ⟨_, e2, _, _⟩ | ⟨b, cap, sp, e1, _, _, e4, _, _⟩
  · omega
  · exact h b cap e1 e4 a w ha hw
theorem y_ldw {t e sz b o m cap : Nat} {cs : List Value} {R : List Asrt} {x : Operand} {ty : TypeId} {v : Value} [ht : TyA P t false] [p : PickW (.slice (some ⟨b, 0, none⟩) m cap) L e sz m cs R] (hx : ev E x = some (.pointer (some ⟨b, o, none⟩))) (hv : cs[o]? = some v) :
    Yld P (.load t x) ty E B L v := fun _ _ _ a w _ _ _ _ ha hw => by
  rcases (hw.ent p.out).ow with ⟨e1, _⟩ | ⟨b', cap', sp, e1, _, _, _, _, hh⟩
  · cases e1
  · simp only [Value.slice.injEq, Option.some.injEq, Addr.mk.injEq, and_true, true_and] at e1
    obtain ⟨rfl, rfl⟩ := e1
    have hlt := (List.getElem?_eq_some_iff.1 hv).1
    simp only [execOp, ha.eval hx, Sem.run_bind, Instr.loadAt, Instr.sureAddr, Sem.run_pure, Result.andThen_ok, loadVar, ht.run, Bool.false_eq_true, if_false]
    rw [run_cell hh.get (show (cs ++ sp).toArray[o]? = some v by simp [List.getElem?_append_left hlt, hv])]
    rfl
theorem y_ldwa {t e sz b o m m' cap : Nat} {cs : List Value} {x' : List Seg} {R : List Asrt} {x : Operand} {ty : TypeId} [ht : TyA P t true] [hs : TyS P t m'] [p : PickW (.slice (some ⟨b, 0, none⟩) m cap) L e sz m cs R] (hx : ev E x = some (.pointer (some ⟨b, o, none⟩))) (hle : o + m' ≤ cs.length) (hv : (cs.drop o).take m' = flat x') :
    Yld P (.load t x) ty E B L (agg x') := fun _ _ _ a w _ _ _ _ ha hw => by
  rcases (hw.ent p.out).ow with ⟨e1, _⟩ | ⟨b', cap', sp, e1, _, _, _, _, hh⟩
  · cases e1
  · simp only [Value.slice.injEq, Option.some.injEq, Addr.mk.injEq, and_true, true_and] at e1
    obtain ⟨rfl, rfl⟩ := e1
    simp only [execOp, ha.eval hx, Sem.run_bind, Instr.loadAt, Instr.sureAddr, Sem.run_pure, Result.andThen_ok, loadVar, ht.run, hs.run, if_true]
    rw [run_loadCells' hh.get (by simp; omega)]
    simp only [Result.andThen_ok]
    have : (((cs ++ sp).toArray.toList.drop o).take m') = flat x' := by
      rw [← hv]
      simp only [List.drop_append, List.take_append, List.length_drop]
      rw [show m' - (cs.length - o) = 0 by omega]
      simp
    rw [this]; rfl
theorem y_ex0 {x : Operand} {ty : TypeId} {v0 v1 : Value} (hx : ev E x = some (.tuple #[v0, v1])) : Yld P (.extract x 0) ty E B L v0 := fun _ _ _ a w _ _ _ _ ha _ => by
  simp [execOp, ha.eval hx, Instr.extract]
theorem y_ex1 {x : Operand} {ty : TypeId} {v0 v1 : Value} (hx : ev E x = some (.tuple #[v0, v1])) : Yld P (.extract x 1) ty E B L v1 := fun _ _ _ a w _ _ _ _ ha _ => by
  simp [execOp, ha.eval hx, Instr.extract]
end
end Sc
