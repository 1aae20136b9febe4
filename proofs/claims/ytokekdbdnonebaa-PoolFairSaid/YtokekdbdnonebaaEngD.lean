/- Operations on memory. -/
import Derived.Test.YtokekdbdnonebaaEngC
namespace Sc
open Go

/-! ### Finding blocks -/
class PickB (b : Nat) (L : List Asrt) (t : outParam TypeId) (s : outParam (List Seg)) (R : outParam (List Asrt)) : Prop where
  out : Ent L (bk b t s :: R)
instance (priority := high) PickB.here (b : Nat) (t : TypeId) (s : List Seg) (L : List Asrt) : PickB b (bk b t s :: L) t s L := ⟨Ent.refl _⟩
instance PickB.there (A : Asrt) (b : Nat) (t : TypeId) (s : List Seg) (L R : List Asrt) [p : PickB b L t s R] : PickB b (A :: L) t s (A :: R) := ⟨(Ent.cons A p.out).trans (Ent.swap A _ R)⟩
class PickO (b : Nat) (L : List Asrt) (o : outParam Obj) (R : outParam (List Asrt)) : Prop where
  out : Ent L (ob b o :: R)
instance (priority := high) PickO.here (b : Nat) (o : Obj) (L : List Asrt) : PickO b (ob b o :: L) o L := ⟨Ent.refl _⟩
instance PickO.there (A : Asrt) (b : Nat) (o : Obj) (L R : List Asrt) [p : PickO b L o R] : PickO b (A :: L) o (A :: R) := ⟨(Ent.cons A p.out).trans (Ent.swap A _ R)⟩

/-- A value of one cell. -/
class OneC (v : Value) : Prop where
  out : v.oneCell' = true
instance (k : IntKind) (m : Int) : OneC (.int k m) := ⟨rfl⟩
instance (b : Bool) : OneC (.bool b) := ⟨rfl⟩
instance (s : ByteArray) : OneC (.string s) := ⟨rfl⟩
instance (a : Option Addr) : OneC (.pointer a) := ⟨rfl⟩
instance (a : Option Addr) (l c : Nat) : OneC (.slice a l c) := ⟨rfl⟩
instance (r : Option Nat) : OneC (.map r) := ⟨rfl⟩
instance (f : Fn) (x y : Array Value) : OneC (.func f x y) := ⟨rfl⟩
instance : OneC .nilFunc := ⟨rfl⟩
instance : OneC .nilIface := ⟨rfl⟩
theorem OneC.cells (v : Value) [h : OneC v] : v.cells = #[v] := by
  have := h.out
  cases v <;> first | rfl | cases this

class OkS (s : List Seg) : Prop where
  out : oks s
instance : OkS [] := ⟨trivial⟩
instance (v : Value) (r : List Seg) [h : OneC v] [k : OkS r] : OkS (.one v :: r) := ⟨⟨h.out, k.out⟩⟩
/-- A row of so many cells. -/
class RowOk (n : Nat) (cs : List Value) : Prop where
  len : cs.length = n
  one : ∀ v ∈ cs, v.oneCell' = true
instance (n : Nat) (cs : List Value) (r : List Seg) [h : RowOk n cs] [k : OkS r] : OkS (.row n cs :: r) := ⟨⟨⟨h.len, h.one⟩, k.out⟩⟩

/-- The segments of a value. -/
class SegsOf (v : Value) (s : outParam (List Seg)) : Prop where
  cells : v.cells = (flat s).toArray
  ok : oks s
instance (s : List Seg) [h : OkS s] : SegsOf (agg s) s := ⟨rfl, h.out⟩
instance (priority := low) (v : Value) [h : OneC v] : SegsOf v [.one v] := ⟨OneC.cells v, h.out, trivial⟩

section
variable {P : Program} {ro : Option Nat} {Q : Exit → Act → World → Prop} {W0 : World} {n : Nat} {K : Act → World → Prop} {E : Env} {ds : List Deferred} {B : PH} {L : List Asrt}

theorem Holds.block {W : World} {b : Nat} {t : TypeId} {s : List Seg} {R : List Asrt} [p : PickB b L t s R] {w : World} (h : Holds W B L w) : w.heap[b]? = some (.cells (flat s).toArray t (0, 0)) ∧ oks s := by
  obtain ⟨h1, h2⟩ := (h.ent p.out).bk
  exact ⟨h2.get, h1⟩

/-! ### Reading cells -/
theorem run_cell {w : World} {b o : Nat} {cs : Array Value} {t : TypeId} {fr : Nat × Nat} {v : Value} (h : w.heap[b]? = some (.cells cs t fr)) (hv : cs[o]? = some v) (m : Mode := .plain) :
    (load ⟨b, o, none⟩ m).run P w = .ok v w := by
  rw [run_load]
  have : w.cell? ⟨b, o, none⟩ = some v := by simp [World.cell?, h, hv]
  rw [this]
theorem Addr.add_eq (b o k : Nat) : (⟨b, o, none⟩ : Addr).add k = ⟨b, o + k, none⟩ := by
  unfold Addr.add
  split
  · rename_i h; subst h; rfl
  · rfl
theorem run_cells {w : World} {b o : Nat} {cs : Array Value} {t : TypeId} {fr : Nat × Nat} (h : w.heap[b]? = some (.cells cs t fr)) :
    ∀ (m i : Nat) (acc : Array Value), o + i + m ≤ cs.size → (loadCellsFrom ⟨b, o, none⟩ i m acc).run P w = .ok (acc ++ ((cs.toList.drop (o + i)).take m).toArray) w := by
  intro m
  induction m with
  | zero => intro i acc _; simp [loadCellsFrom]
  | succ m ih =>
    intro i acc hm
    have hlt : o + i < cs.size := by omega
    simp only [loadCellsFrom, Sem.run_bind]
    rw [Addr.add_eq, run_cell h (show cs[o + i]? = some cs[o + i] by simp [hlt])]
    simp only [Result.andThen_ok]
    rw [ih (i + 1) _ (by omega)]
    congr 1
    rw [← Array.toList_inj]
    simp only [Array.toList_append, Array.toList_push, List.append_assoc]
    congr 1
    rw [show o + (i + 1) = o + i + 1 by omega]
    rw [List.drop_eq_getElem_cons (l := cs.toList) (i := o + i) (by simpa using hlt)]
    simp
theorem run_loadCells' {w : World} {b o m : Nat} {cs : Array Value} {t : TypeId} {fr : Nat × Nat} (h : w.heap[b]? = some (.cells cs t fr)) (hm : o + m ≤ cs.size) :
    (loadCells ⟨b, o, none⟩ m).run P w = .ok ((cs.toList.drop o).take m).toArray w := by
  have := run_cells (P := P) h m 0 #[] (by omega)
  simpa [loadCells] using this

theorem y_fa_run {s f off : Nat} {ad : Addr} {b o : Nat} (h : ∀ a w, (Instr.fieldAt s (.pointer (some a)) f).run P w = .ok (.pointer (some (a.add off))) w) (w : World) (e : ad = ⟨b, o, none⟩) :
    (Instr.fieldAt s (.pointer (some ad)) f).run P w = .ok (.pointer (some ⟨b, o + off, none⟩)) w := by rw [h, e, Addr.add_eq]
/-- Where a field lies. -/
class TyF (P : Program) (s : TypeId) (f : Nat) (off : outParam Nat) : Prop where
  run : ∀ a w, (Instr.fieldAt s (.pointer (some a)) f).run P w = .ok (.pointer (some (a.add off))) w
theorem y_fa {s f off b o : Nat} {x : Operand} {ty : TypeId} [h : TyF P s f off] (hx : ev E x = some (.pointer (some ⟨b, o, none⟩))) : Yld P (.fieldAddr s x f) ty E B L (.pointer (some ⟨b, o + off, none⟩)) := fun _ _ _ a w _ _ _ _ ha _ => by
  simp only [execOp, ha.eval hx, Sem.run_bind, h.run, Addr.add_eq, Result.andThen_ok, Sem.run_pure]
theorem y_ia {t e sz b o len cap : Nat} {x y : Operand} {ty : TypeId} {k : IntKind} {i : Int} [h : TyU P t (.slice e)] [hs : TyS P e sz] (hx : ev E x = some (.slice (some ⟨b, o, none⟩) len cap)) (hy : ev E y = some (.int k i)) (j : Nat) (hj : i = (j : Int)) (hlt : j < len) :
    Yld P (.indexAddr t x y) ty E B L (.pointer (some ⟨b, o + j * sz, none⟩)) := fun _ _ _ a w _ _ _ _ ha _ => by
  subst hj
  simp [execOp, ha.eval hx, ha.eval hy, Sem.run_bind, Instr.indexAt, asIntOf, h.run, hs.run, hlt, Addr.add_eq]
/-- The address of an array's element. -/
theorem y_iaa {t e sz b o len : Nat} {x y : Operand} {ty : TypeId} {k : IntKind} {i : Int} [h : TyU P t (.array len e)] [hs : TyS P e sz] (hx : ev E x = some (.pointer (some ⟨b, o, none⟩))) (hy : ev E y = some (.int k i)) (j : Nat) (hj : i = (j : Int)) (hlt : j < len) :
    Yld P (.indexAddr t x y) ty E B L (.pointer (some ⟨b, o + j * sz, none⟩)) := fun _ _ _ a w _ _ _ _ ha _ => by
  subst hj
  simp [execOp, ha.eval hx, ha.eval hy, Sem.run_bind, Instr.indexAt, Instr.sureAddr, asIntOf, h.run, hs.run, hlt, Addr.add_eq]

theorem y_ld {t tb b o : Nat} {s : List Seg} {R : List Asrt} {x : Operand} {ty : TypeId} {v : Value} [ht : TyA P t false] [p : PickB b L tb s R] (hx : ev E x = some (.pointer (some ⟨b, o, none⟩))) (hv : sget s o = some v) :
    Yld P (.load t x) ty E B L v := fun _ _ _ a w _ _ _ _ ha hw => by
  obtain ⟨h1, h2⟩ := hw.block (p := p)
  have h3 := sget_ok h2 hv
  simp only [execOp, ha.eval hx, Sem.run_bind, Instr.loadAt, Instr.sureAddr, Sem.run_pure, Result.andThen_ok, loadVar, ht.run, Bool.false_eq_true, if_false]
  rw [run_cell h1 (by simpa using h3)]
  rfl
theorem y_lda {t tb b o m : Nat} {s x' : List Seg} {R : List Asrt} {x : Operand} {ty : TypeId} [ht : TyA P t true] [hs : TyS P t m] [p : PickB b L tb s R] (hx : ev E x = some (.pointer (some ⟨b, o, none⟩))) (hv : ssub s o m = some x') :
    Yld P (.load t x) ty E B L (agg x') := fun _ _ _ a w _ _ _ _ ha hw => by
  obtain ⟨h1, h2⟩ := hw.block (p := p)
  obtain ⟨h3, h4, h5, h6⟩ := ssub_ok h2 hv
  simp only [execOp, ha.eval hx, Sem.run_bind, Instr.loadAt, Instr.sureAddr, Sem.run_pure, Result.andThen_ok, loadVar, ht.run, hs.run, if_true]
  rw [run_loadCells' h1 (by simpa using h6)]
  simp only [Result.andThen_ok]
  rw [h3]; rfl

/-- What lies on the pile. -/
def pcell (B : PH) (b o : Nat) (v : Value) : Prop := ∃ cs t fr, B b = some (.cells cs t fr) ∧ cs[o]? = some v
def prow (B : PH) (b o : Nat) (vs : List Value) : Prop := ∃ cs t fr, B b = some (.cells cs t fr) ∧ (cs.toList.drop o).take vs.length = vs ∧ o + vs.length ≤ cs.size
theorem pcell.mono {B B' : PH} {b o : Nat} {v : Value} (h : pcell B b o v) (l : B.le B') : pcell B' b o v := let ⟨cs, t, fr, h1, h2⟩ := h; ⟨cs, t, fr, l _ _ h1, h2⟩
theorem prow.mono {B B' : PH} {b o : Nat} {v : List Value} (h : prow B b o v) (l : B.le B') : prow B' b o v := let ⟨cs, t, fr, h1, h2⟩ := h; ⟨cs, t, fr, l _ _ h1, h2⟩
theorem y_ldp {t b o : Nat} {x : Operand} {ty : TypeId} {v : Value} [ht : TyA P t false] (hx : ev E x = some (.pointer (some ⟨b, o, none⟩))) (hv : pcell B b o v) :
    Yld P (.load t x) ty E B L v := fun _ _ _ a w _ _ _ _ ha hw => by
  obtain ⟨cs, t', fr, h1, h2⟩ := hv
  simp only [execOp, ha.eval hx, Sem.run_bind, Instr.loadAt, Instr.sureAddr, Sem.run_pure, Result.andThen_ok, loadVar, ht.run, Bool.false_eq_true, if_false]
  rw [run_cell (hw.pile h1) h2]
  rfl
theorem y_ldpa {t b o m : Nat} {x : Operand} {ty : TypeId} {s : List Seg} [ht : TyA P t true] [hs : TyS P t m] (hx : ev E x = some (.pointer (some ⟨b, o, none⟩))) (hv : prow B b o (flat s)) (hm : (flat s).length = m) :
    Yld P (.load t x) ty E B L (agg s) := fun _ _ _ a w _ _ _ _ ha hw => by
  obtain ⟨cs, t', fr, h1, h2, h3⟩ := hv
  subst hm
  simp only [execOp, ha.eval hx, Sem.run_bind, Instr.loadAt, Instr.sureAddr, Sem.run_pure, Result.andThen_ok, loadVar, ht.run, hs.run, if_true]
  rw [run_loadCells' (hw.pile h1) h3]
  simp only [Result.andThen_ok]
  rw [h2]; rfl
/-- Inside a row of a block. -/
def srow : List Seg → Nat → Option (Nat × List Value)
  | [], _ => none
  | .one _ :: r, k => bif Nat.beq k 0 then none else srow r (k - 1)
  | .row n cs :: r, k => bif Nat.beq k 0 then some (n, cs) else bif Nat.ble n k then srow r (k - n) else none
theorem srow_ok {s : List Seg} : ∀ {k m : Nat} {cs : List Value}, oks s → srow s k = some (m, cs) → cs.length = m ∧ (∀ v ∈ cs, v.oneCell' = true) ∧ ((flat s).drop k).take m = cs ∧ k + m ≤ (flat s).length := by
  induction s with
  | nil => intro k m cs _ h; cases h
  | cons y s ih =>
    intro k m cs ho h
    cases y with
    | one u =>
      simp only [srow] at h
      cases k with
      | zero => simp at h
      | succ k =>
        rw [show Nat.beq (k + 1) 0 = false from rfl] at h
        simp only [cond_false, Nat.add_sub_cancel] at h
        obtain ⟨h1, h2, h3, h4⟩ := ih ho.2 h
        exact ⟨h1, h2, by simpa [flat, Seg.cells] using h3, by simp only [flat, Seg.cells, List.length_append, List.length_cons, List.length_nil]; omega⟩
    | row n' cs' =>
      simp only [srow] at h
      cases k with
      | zero =>
        simp at h
        obtain ⟨rfl, rfl⟩ := h
        exact ⟨ho.1.1, ho.1.2, by simp [flat, Seg.cells, ho.1.1], by simp [flat, Seg.cells, ho.1.1]⟩
      | succ k =>
        rw [show Nat.beq (k + 1) 0 = false from rfl] at h
        simp only [cond_false] at h
        cases hb : Nat.ble n' (k + 1) with
        | false => rw [hb] at h; cases h
        | true =>
          rw [hb] at h
          simp only [cond_true] at h
          have hk := Nat.le_of_ble_eq_true hb
          obtain ⟨h1, h2, h3, h4⟩ := ih ho.2 h
          refine ⟨h1, h2, ?_, ?_⟩
          · simp only [flat, Seg.cells]
            rw [List.drop_append, List.drop_of_length_le (by rw [ho.1.1]; exact hk), List.nil_append, ho.1.1]
            exact h3
          · simp only [flat, Seg.cells, List.length_append, ho.1.1]; omega
theorem y_ldr {t tb b o o0 m d : Nat} {s : List Seg} {cs : List Value} {R : List Asrt} {x : Operand} {ty : TypeId} {v : Value} [ht : TyA P t false] [p : PickB b L tb s R] (hx : ev E x = some (.pointer (some ⟨b, o, none⟩)))
    (hr : srow s o0 = some (m, cs)) (ho : o = o0 + d) (hv : cs[d]? = some v) : Yld P (.load t x) ty E B L v := fun _ _ _ a w _ _ _ _ ha hw => by
  obtain ⟨h1, h2⟩ := hw.block (p := p)
  obtain ⟨h3, _, h4, h5⟩ := srow_ok h2 hr
  have hd : d < m := by have := (List.getElem?_eq_some_iff.1 hv).1; omega
  have h6 : (flat s)[o]? = some v := by
    rw [ho, ← List.getElem?_drop, ← List.getElem?_take_of_lt (l := (flat s).drop o0) hd, h4]; exact hv
  simp only [execOp, ha.eval hx, Sem.run_bind, Instr.loadAt, Instr.sureAddr, Sem.run_pure, Result.andThen_ok, loadVar, ht.run, Bool.false_eq_true, if_false]
  rw [run_cell h1 (by simpa using h6)]
  rfl
theorem y_ldra {t tb b o o0 m m' d : Nat} {s x' : List Seg} {cs : List Value} {R : List Asrt} {x : Operand} {ty : TypeId} [ht : TyA P t true] [hs : TyS P t m'] [p : PickB b L tb s R] (hx : ev E x = some (.pointer (some ⟨b, o, none⟩)))
    (hr : srow s o0 = some (m, cs)) (ho : o = o0 + d) (hle : d + m' ≤ m) (hv : (cs.drop d).take m' = flat x') : Yld P (.load t x) ty E B L (agg x') := fun _ _ _ a w _ _ _ _ ha hw => by
  obtain ⟨h1, h2⟩ := hw.block (p := p)
  obtain ⟨h3, _, h4, h5⟩ := srow_ok h2 hr
  have h6 : ((flat s).drop o).take m' = flat x' := by
    rw [← hv, ← h4, ho, List.drop_take, List.take_take, List.drop_drop, Nat.min_eq_left (by omega)]
  simp only [execOp, ha.eval hx, Sem.run_bind, Instr.loadAt, Instr.sureAddr, Sem.run_pure, Result.andThen_ok, loadVar, ht.run, hs.run, if_true]
  rw [run_loadCells' h1 (by simp; omega)]
  simp only [Result.andThen_ok]
  rw [h6]; rfl

/-! ### Writing cells -/
theorem Holds.setCell {W : World} {w : World} {b o : Nat} {t : TypeId} {cs : List Value} {R : List Asrt} {v : Value} (h : Holds W B (ob b (.cells cs.toArray t (0, 0)) :: R) w) :
    Holds W B (ob b (.cells (cs.set o v).toArray t (0, 0)) :: R) (w.setCell ⟨b, o, none⟩ v) := by
  have hg := h.get
  have hb := h.1
  refine h.upd ⟨hb.os, hb.tape, hb.output, by simpa using hb.size⟩ ?_ ?_
  · show (w.heap.modify b _)[b]? = _
    obtain ⟨hlt, e⟩ := Array.getElem?_eq_some_iff.1 hg
    rw [Array.getElem?_eq_getElem (by rw [Array.size_modify]; exact hlt), Array.getElem_modify_self, e]
    simp
  · intro c hc
    show (w.heap.modify b _)[c]? = _
    rw [Array.getElem?_modify, if_neg (fun e => hc e.symm)]
theorem run_put {W : World} {b o : Nat} {t : TypeId} {R : List Asrt} : ∀ (vs : List Value) (i : Nat) (cs : List Value) (w : World), Holds W B (ob b (.cells cs.toArray t (0, 0)) :: R) w → o + i + vs.length ≤ cs.length → (∀ v ∈ vs, v.oneCell' = true) →
    ∃ w', (storeCells ⟨b, o, none⟩ vs i).run P w = .ok () w' ∧ Holds W B (ob b (.cells (cs.take (o + i) ++ vs ++ cs.drop (o + i + vs.length)).toArray t (0, 0)) :: R) w'
  | [], i, cs, w, h, hm, _ => ⟨w, rfl, by simpa using h⟩
  | v :: vs, i, cs, w, h, hm, h1 => by
    simp only [List.length_cons] at hm
    have hlt : o + i < cs.length := by omega
    have hcell : w.cell? ⟨b, o + i, none⟩ = some cs[o + i] := by simp [World.cell?, h.get, hlt]
    have hfz : w.frozen? ⟨b, o + i, none⟩ = false := by simp [World.frozen?, h.get]
    obtain ⟨w', hr, hh⟩ := run_put (o := o) vs (i + 1) (cs.set (o + i) v) _ (h.setCell (o := o + i) (v := v)) (by simp; omega) (fun u hu => h1 u (List.mem_cons_of_mem _ hu))
    refine ⟨w', ?_, ?_⟩
    · simp only [storeCells, Sem.run_bind]
      rw [Addr.add_eq, run_store P w _ v _ (h1 v List.mem_cons_self), hcell]
      simp only [hfz, Bool.false_eq_true, if_false, Result.andThen_ok]
      exact hr
    · have e : (cs.set (o + i) v).take (o + (i + 1)) ++ vs ++ (cs.set (o + i) v).drop (o + (i + 1) + vs.length) = cs.take (o + i) ++ v :: vs ++ cs.drop (o + i + (vs.length + 1)) := by
        rw [show o + (i + 1) = o + i + 1 by omega, List.take_succ_eq_append_getElem (by simpa using hlt), List.getElem_set_self, List.take_set_of_le (Nat.le_refl _), List.drop_set_of_lt (by omega)]
        simp [Nat.add_assoc, Nat.add_comm 1]
      rw [e] at hh
      simpa using hh
/-- A list of segments, told plainly. -/
class LNorm (l : List Seg) (r : outParam (List Seg)) : Prop where
  eq : l = r
instance (priority := low) LNorm.same (l : List Seg) : LNorm l l := ⟨rfl⟩
instance LNorm.cons (a : Seg) (l r : List Seg) [h : LNorm l r] : LNorm (a :: l) (a :: r) := ⟨by rw [h.eq]⟩
instance LNorm.nilapp (m r : List Seg) [h : LNorm m r] : LNorm ([] ++ m) r := ⟨by rw [← h.eq]; rfl⟩
instance LNorm.consapp (a : Seg) (l m r : List Seg) [h : LNorm (l ++ m) r] : LNorm ((a :: l) ++ m) (a :: r) := ⟨by rw [← h.eq]; rfl⟩
theorem o_stv {t tb b o m : Nat} {s s' s'' y : List Seg} {R : List Asrt} {x z : Operand} {ty : TypeId} {pos : String} {af : Array Edge} {g : Option (Nat × Bool)} {v : Value} [hs : TyS P t m] [p : PickB b L tb s R] [hv : SegsOf v y] (hx : ev E x = some (.pointer (some ⟨b, o, none⟩))) (hz : ev E z = some v)
    (hp : sput s o y = some s') (hm : swidth y = m) [ln : LNorm s' s''] (h : KGo W0 n K E ds B (bk b tb s'' :: R)) : KGo W0 n (wo P ro ⟨none, .store t x z, ty, pos, af, g⟩ K Q) E ds B L := fun a w ha hw => by
  rw [← ln.eq] at h
  have hw1 := hw.ent p.out
  obtain ⟨ho, hw2⟩ := hw1.bk
  obtain ⟨e1, e2, e3⟩ := sput_ok hv.ok ho hp
  obtain ⟨w', hr, hh⟩ := run_put (P := P) (o := o) (flat y) 0 _ w hw2 (by simpa using e3) (oks_mem hv.ok)
  refine op_skip (w' := w') ?_ ?_
  · have hsz : v.cells.size = m := by rw [hv.cells]; simp [← hm, swidth_eq hv.ok]
    simp only [execOp, ha.eval hx, ha.eval hz, Sem.run_bind, Instr.storeAt, Instr.sureAddr, Sem.run_pure, Result.andThen_ok, storeVar, hs.run, hsz, ne_eq, not_true_eq_false, if_false]
    rw [hv.cells]
    simp only [hr, Result.andThen_ok]
  · refine h a w' ha ?_
    have : Holds W0 B (ob b (.cells (flat s').toArray tb (0, 0)) :: R) w' := by rw [e1]; simpa using hh
    exact this.ent (Ent.bk e2 R)

/-! ### New blocks -/
theorem o_al {t : TypeId} {z : List Seg} {d : Nat} {ty : TypeId} {pos : String} {af : Array Edge} {g : Option (Nat × Bool)} [hz : TyZ P t z] (hd : Nat.blt d n = true)
    (h : ∀ b, KGo W0 n K ((d, .pointer (some ⟨b, 0, none⟩)) :: E) ds B (bk b t z :: L)) : KGo W0 n (wo P ro ⟨some d, .alloc t, ty, pos, af, g⟩ K Q) E ds B L := fun a w ha hw => by
  obtain ⟨v, hv, hc⟩ := hz.run w
  refine op_val (w' := { w with heap := w.heap.push (.cells v.cells t) }) (v := .pointer (some ⟨w.heap.size, 0, none⟩)) ?_ (h _ _ _ (ha.put (Nat.le_of_ble_eq_true hd) _) ?_)
  · simp [execOp, Instr.alloc, hv, newVar, newRow]
  · rw [hc]; exact (hw.alloc _).ent (Ent.bk hz.ok L)
theorem o_bx {t : TypeId} {s : List Seg} {v : Value} {d : Nat} {x : Operand} {ty : TypeId} {pos : String} {af : Array Edge} {g : Option (Nat × Bool)} [hv : SegsOf v s] (hx : ev E x = some v) (hd : Nat.blt d n = true)
    (h : ∀ b, KGo W0 n K ((d, .pointer (some ⟨b, 0, none⟩)) :: E) ds B (bk b t s :: L)) : KGo W0 n (wo P ro ⟨some d, .box t x, ty, pos, af, g⟩ K Q) E ds B L := fun a w ha hw => by
  refine op_val (w' := { w with heap := w.heap.push (.cells v.cells t) }) (v := .pointer (some ⟨w.heap.size, 0, none⟩)) ?_ (h _ _ _ (ha.put (Nat.le_of_ble_eq_true hd) _) ?_)
  · simp [execOp, Instr.box, ha.eval hx, newVar, newRow]
  · rw [hv.cells]; exact (hw.alloc _).ent (Ent.bk hv.ok L)
end
end Sc
