/- Texts and bytes. -/
import Derived.Test.YtokekdbdnonebaaEngV
import Derived.Laws.StructEq
namespace Sc
open Go
/-- A text of bytes. -/
def strB (l : List UInt8) : ByteArray := ⟨l.toArray⟩
theorem strB_inj {a b : List UInt8} (h : strB a = strB b) : a = b := by
  have := congrArg (fun x => x.data.toList) h
  simpa [strB] using this
theorem strB_size (l : List UInt8) : (strB l).size = l.length := by simp [strB, ByteArray.size]
section
variable {P : Program} {ro : Option Nat} {Q : Exit → Act → World → Prop} {W0 : World} {n : Nat} {K : Act → World → Prop} {E : Env} {ds : List Deferred} {B : PH} {L : List Asrt}
/-- Bytes that a text became: nobody writes them. -/
theorem o_cvs {s e d b o m c tb ty : Nat} {x : Operand} {pos : String} {af : Array Edge} {g : Option (Nat × Bool)} {sg : List Seg} {R : List Asrt} [hu : TyU P s (.slice e)] [hu2 : TyU P e (.int .u8)] [p : PickB b L tb sg R] (hx : ev E x = some (.slice (some ⟨b, o, none⟩) m c)) (hd : Nat.blt d n = true)
    (h : ∀ B', B.le B' → prow B' b 0 (flat sg) → KGo W0 n K ((d, .slice (some ⟨b, o, none⟩) m c) :: E) ds B' R) : KGo W0 n (wo P ro ⟨some d, .convert s s x, ty, pos, af, g⟩ K Q) E ds B L := fun a w ha hw => by
  obtain ⟨hok, hw2⟩ := (hw.ent p.out).bk
  have hg := hw2.get
  have hlt : b < w.heap.size := (Array.getElem?_eq_some_iff.1 hg).1
  let w' := w.freeze ⟨b, (flat sg).length, none⟩ 1
  have hs : w.shape? b = some (tb, (flat sg).length) := by simp [World.shape?, hg]
  have hsame : w'.heap[b]? = some (.cells (flat sg).toArray tb ((flat sg).length, (flat sg).length + 1)) := by
    show (w.heap.modify b _)[b]? = _
    rw [Array.getElem?_modify, if_pos rfl, hg]; rfl
  have hother : ∀ c, c ≠ b → w'.heap[c]? = w.heap[c]? := fun c hc => by
    show (w.heap.modify b _)[c]? = _
    rw [Array.getElem?_modify, if_neg (fun e => hc e.symm)]
  have hb := hw2.1
  have hw3 := hw2.upd (w' := w') ⟨hb.os, hb.tape, hb.output, by show _ ≤ (w.heap.modify b _).size; rw [Array.size_modify]; exact hb.size⟩ hsame hother
  obtain ⟨k, hk, hdj, hw4⟩ := hw3.freeze
  obtain rfl := hk
  refine op_val (w' := w') (v := .slice (some ⟨b, o, none⟩) m c) ?_ (h _ (PH.le_cup_left _ _) ⟨_, _, _, PH.le_cup_right hdj _ _ (PH.one_same b _), by simp, by simp⟩ _ w' (ha.put (Nat.le_of_ble_eq_true hd) _) hw4)
  simp only [execOp, ha.eval hx, convert, Sem.run_bind, hu.run, Result.andThen_ok, hu2.run, beq_self_eq_true, markStringish, run_shape, hs, run_freeze, Sem.run_pure]
  rfl
theorem run_push {f : Value → ByteArray → Sem (ForInStep ByteArray)} (hf : ∀ (x : UInt8) s, f (cB x) s = pure (ForInStep.yield (s.push x))) : ∀ (l : List UInt8) (acc : ByteArray) (w : World), (forIn (m := Sem) (cBs l) acc f).run P w = .ok ⟨acc.data ++ l.toArray⟩ w
  | [], acc, w => by simp [cBs]
  | x :: l, acc, w => by
    have ih := run_push hf l (acc.push x) w
    simp only [cBs, List.map_cons, List.forIn_cons, Sem.run_bind, hf, Sem.run_pure, Result.andThen_ok]
    simp only [cBs] at ih
    rw [ih]
    congr 1
    simp [ByteArray.push]
theorem run_b2s {l : List UInt8} {v : Value} (h : IsB B v l) {W : World} {w : World} (hw : Holds W B L w) : (Conv.bytesToString v).run P w = .ok (.string (strB l)) w := by
  obtain ⟨a, c, rfl, hc, hr⟩ := h
  cases a with
  | none =>
    have : l = [] := by
      rcases l with _ | ⟨x, l⟩
      · rfl
      · obtain ⟨b, o, e, _⟩ := hr (by simp [cBs])
        cases e
    subst this
    rfl
  | some ad =>
    have hload : (loadCells ad l.length).run P w = .ok (cBs l).toArray w := by
      by_cases hl : l = []
      · subst hl; rfl
      · obtain ⟨b, o, e, cs, t, fr, h1, h2, h3⟩ := hr (by simpa [cBs] using hl)
        cases e
        rw [cBs_length] at h2 h3
        rw [run_loadCells' (hw.pile h1) h3, h2]
    simp only [Conv.bytesToString, Sem.run_bind, hload, Result.andThen_ok]
    rw [List.forIn_toArray, run_push (P := P) (fun x s => by simp [cB]) l .empty w]
    have e : (strB l) = ⟨ByteArray.empty.data ++ l.toArray⟩ := by simp [strB, ByteArray.empty, ByteArray.emptyWithCapacity]; rfl
    rw [e]; rfl
theorem y_cvS {s t e ty : TypeId} {x : Operand} {v : Value} {l : List UInt8} [h1 : TyU P s (.slice e)] [h2 : TyU P t .string] [h3 : TyU P e (.int .u8)] (hb : IsB B v l) (hx : ev E x = some v) : Yld P (.convert s t x) ty E B L (.string (strB l)) := fun _ _ _ a w _ _ _ _ ha hw => by
  obtain ⟨a', c, rfl⟩ := hb.form
  simp only [execOp, ha.eval hx, convert, Sem.run_bind, h1.run, h2.run, Result.andThen_ok, h3.run, run_b2s hb hw, Sem.run_pure]
theorem run_eqS {t : TypeId} (hu : P.underlying t = some .string) (a b : ByteArray) (w : World) (k : Nat) : (Op.equalIn (k + 1) t (.string a) (.string b)).run P w = .ok (a == b) w := by
  simp [Op.equalIn, run_underlying hu]
theorem strB_beq (a b : List UInt8) : (strB a == strB b) = decide (a = b) := by
  rw [beq_toListBytes, ByteArray.toList_eq, ByteArray.toList_eq]
  rw [Bool.eq_iff_iff]
  simp [strB]
theorem strB_beq2 (a b : List UInt8) : ((strB a).toList == (strB b).toList) = decide (a = b) := by
  rw [ByteArray.toList_eq, ByteArray.toList_eq, Bool.eq_iff_iff]
  simp [strB]
theorem y_eqS {t t' ty : TypeId} {x y : Operand} {a b : List UInt8} [hu : TyU P t .string] (hx : ev E x = some (.string (strB a))) (hy : ev E y = some (.string (strB b))) : Yld P (.binOp .eql t x y t') ty E B L (.bool (decide (a = b))) := fun _ _ _ ac w _ _ _ _ ha _ => by
  simp only [execOp, ha.eval hx, ha.eval hy, Sem.run_bind]
  rw [eqGuard_no (by simp) (by simp)]
  simp only [Result.andThen_ok, binOp, Op.stringOp, Sem.run_pure, strB_beq2]
theorem y_neS {t t' ty : TypeId} {x y : Operand} {a b : List UInt8} [hu : TyU P t .string] (hx : ev E x = some (.string (strB a))) (hy : ev E y = some (.string (strB b))) : Yld P (.binOp .neq t x y t') ty E B L (.bool (decide (a ≠ b))) := fun _ _ _ ac w _ _ _ _ ha _ => by
  simp only [execOp, ha.eval hx, ha.eval hy, Sem.run_bind]
  rw [eqGuard_no (by simp) (by simp)]
  simp only [Result.andThen_ok, binOp, Op.stringOp, Sem.run_pure, strB_beq2]
  simp
/-- Truths compared. -/
theorem run_eqTB {t : TypeId} (hu : P.underlying t = some .bool) (a b : Bool) (w : World) (k : Nat) : (Op.equalIn (k + 1) t (.bool a) (.bool b)).run P w = .ok (a == b) w := by
  simp [Op.equalIn, run_underlying hu]
theorem y_neTB {t t' ty : TypeId} {x y : Operand} {a b : Bool} [hu : TyU P t .bool] (hx : ev E x = some (.bool a)) (hy : ev E y = some (.bool b)) : Yld P (.binOp .neq t x y t') ty E B L (.bool (!(a == b))) := fun _ _ _ ac w _ _ _ _ ha _ => by
  simp only [execOp, ha.eval hx, ha.eval hy, Sem.run_bind]
  rw [eqGuard_no (by simp) (by simp)]
  have := run_eqTB (P := P) hu.get a b w 9999
  simp only [Result.andThen_ok, binOp, Sem.run_bind, Op.equal, Op.maxDepth, this, Sem.run_pure]
theorem y_eqTB {t t' ty : TypeId} {x y : Operand} {a b : Bool} [hu : TyU P t .bool] (hx : ev E x = some (.bool a)) (hy : ev E y = some (.bool b)) : Yld P (.binOp .eql t x y t') ty E B L (.bool (a == b)) := fun _ _ _ ac w _ _ _ _ ha _ => by
  simp only [execOp, ha.eval hx, ha.eval hy, Sem.run_bind]
  rw [eqGuard_no (by simp) (by simp)]
  have := run_eqTB (P := P) hu.get a b w 9999
  simp only [Result.andThen_ok, binOp, Sem.run_bind, Op.equal, Op.maxDepth, this, Sem.run_pure]
end
end Sc
