/- Maps; rows that are owned, opened and shut. -/
import Derived.Test.YtokekdbdnonebaaEngS
namespace Sc
open Go

/-! ### Maps, plainly -/
section plain
variable {κ α β : Type} [DecidableEq κ]
def mfind : List (κ × α) → κ → Nat → Option (Nat × α)
  | [], _, _ => none
  | (k', v) :: r, k, i => if k = k' then some (i, v) else mfind r k (i + 1)
def mget : List (κ × α) → κ → Option α
  | [], _ => none
  | (k', v) :: r, k => if k = k' then some v else mget r k
def mset : List (κ × α) → κ → α → List (κ × α)
  | [], k, v => [(k, v)]
  | (k', v') :: r, k, v => if k = k' then (k, v) :: r else (k', v') :: mset r k v
theorem mfind_get : ∀ (l : List (κ × α)) (k : κ) (i : Nat), (mfind l k i).map (·.2) = mget l k
  | [], _, _ => rfl
  | (k', v) :: r, k, i => by
    simp only [mfind, mget]
    split
    · rfl
    · exact mfind_get r k (i + 1)
theorem mfind_none : ∀ {l : List (κ × α)} {k : κ} {i : Nat} (v : α), mfind l k i = none → mget l k = none ∧ mset l k v = l ++ [(k, v)]
  | [], _, _, _, _ => ⟨rfl, rfl⟩
  | (k', v') :: r, k, i, v, h => by
    simp only [mfind] at h
    split at h
    · cases h
    · rename_i hn
      obtain ⟨h1, h2⟩ := mfind_none v h
      simp only [mget, mset, if_neg hn, h1, h2, List.cons_append, true_and]
theorem mfind_some : ∀ {l : List (κ × α)} {k : κ} {i j : Nat} {u : α} (v : α), mfind l k i = some (j, u) → i ≤ j ∧ l[j - i]? = some (k, u) ∧ mget l k = some u ∧ mset l k v = l.set (j - i) (k, v)
  | (k', v') :: r, k, i, j, u, v, h => by
    simp only [mfind] at h
    split at h
    · rename_i he
      subst he
      simp only [Option.some.injEq, Prod.mk.injEq] at h
      obtain ⟨rfl, rfl⟩ := h
      simp [mget, mset]
    · rename_i hn
      obtain ⟨h1, h2, h3, h4⟩ := mfind_some v h
      refine ⟨by omega, ?_, by simp only [mget, if_neg hn, h3], ?_⟩
      · rw [show j - i = (j - (i + 1)) + 1 by omega]; simpa using h2
      · rw [show j - i = (j - (i + 1)) + 1 by omega]; simp only [mset, if_neg hn, h4, List.set_cons_succ]
theorem mget_set (l : List (κ × α)) (k k' : κ) (v : α) : mget (mset l k v) k' = if k' = k then some v else mget l k' := by
  induction l with
  | nil => simp [mset, mget]
  | cons p r ih =>
    obtain ⟨a, b⟩ := p
    simp only [mset]
    split
    · rename_i h
      subst h
      simp only [mget]
      split <;> simp_all
    · rename_i h
      simp only [mget, ih]
      split
      · rename_i h2
        subst h2
        rw [if_neg (fun e => h e.symm)]
      · rfl
theorem mget_map (g : α → β) (l : List (κ × α)) (k : κ) : mget (l.map fun p => (p.1, g p.2)) k = (mget l k).map g := by
  induction l with
  | nil => rfl
  | cons p r ih =>
    simp only [List.map_cons, mget, ih]
    split <;> rfl
theorem mset_map (g : α → β) (l : List (κ × α)) (k : κ) (v : α) : mset (l.map fun p => (p.1, g p.2)) k (g v) = (mset l k v).map fun p => (p.1, g p.2) := by
  induction l with
  | nil => rfl
  | cons p r ih =>
    simp only [List.map_cons, mset, ih]
    split <;> simp
theorem mset_length (l : List (κ × α)) (k : κ) (v : α) : (mset l k v).length ≤ l.length + 1 := by
  induction l with
  | nil => simp [mset]
  | cons p r ih =>
    simp only [mset]
    split <;> simp <;> omega
end plain

/-- How keys lie in a map. -/
class KeyT (P : Program) (kt : TypeId) {κ : Type} [DecidableEq κ] (f : κ → Value) : Prop where
  check : ∀ e k w, (Instr.checkKey e 10000 kt (f k)).run P w = .ok () w
  find : ∀ k {α : Type} (l : List (κ × α)) (es : List MapEntry) (g : κ × α → Value) w, es.map (fun e => (e.key, e.val)) = l.map (fun p => (f p.1, g p)) → (Instr.findKey kt (f k) es).run P w = .ok ((mfind (l.map fun p => (p.1, g p)) k 0)) w
  bits : ∀ k, Instr.sameBits 10000 (f k) (f k) = true
theorem find_asking {P : Program} {kt : TypeId} {κ : Type} [DecidableEq κ] {f : κ → Value} (heq : ∀ a b w, (Op.equal kt (f a) (f b)).run P w = .ok (decide (a = b)) w) (k : κ) {α : Type} (g : κ × α → Value) (w : World) :
    ∀ (l : List (κ × α)) (es : List MapEntry) (i : Nat), es.map (fun e => (e.key, e.val)) = l.map (fun p => (f p.1, g p)) → (Instr.findAsking kt (f k) es i).run P w = .ok (mfind (l.map fun p => (p.1, g p)) k i) w
  | [], [], i, _ => by simp [Instr.findAsking, mfind]
  | p :: l, e :: es, i, h => by
    simp only [List.map_cons, List.cons.injEq, Prod.mk.injEq] at h
    obtain ⟨⟨h1, h2⟩, h3⟩ := h
    simp only [Instr.findAsking, Sem.run_bind, h1, heq, Result.andThen_ok, List.map_cons, mfind, h2]
    by_cases hk : k = p.1
    · simp [hk]
    · simp only [hk, decide_false, Bool.false_eq_true, if_false]
      exact find_asking heq k g w l es (i + 1) h3
  | [], _ :: _, _, h => by simp at h
  | _ :: _, [], _, h => by simp at h
theorem keyT_of {P : Program} {kt : TypeId} {κ : Type} [DecidableEq κ] {f : κ → Value} (hck : ∀ e k w, (Instr.checkKey e 10000 kt (f k)).run P w = .ok () w) (heq : ∀ a b w, (Op.equal kt (f a) (f b)).run P w = .ok (decide (a = b)) w)
    {d : TypeDesc} (hu : ∀ w, (underlying kt).run P w = .ok d w) (hn : ∀ u v, Instr.sameNow d u v = none) (hb : ∀ k, Instr.sameBits 10000 (f k) (f k) = true) : KeyT P kt f := ⟨hck, fun k α l es g w h => by
  simp only [Instr.findKey, Sem.run_bind, hu, Result.andThen_ok]
  cases es with
  | nil =>
    cases l with
    | nil => simp [Instr.findNow, mfind]
    | cons p l => simp at h
  | cons e es =>
    simp only [Instr.findNow, hn]
    exact find_asking heq k g w l (e :: es) 0 h, hb⟩
theorem find_now {κ : Type} [DecidableEq κ] {ik : IntKind} {d : IntKind} {α : Type} (k : Int) (g : Int × α → Value) : ∀ (l : List (Int × α)) (es : List MapEntry) (i : Nat), es.map (fun e => (e.key, e.val)) = l.map (fun p => (Value.int ik p.1, g p)) →
    Instr.findNow (.int d) (.int ik k) es i = some (mfind (l.map fun p => (p.1, g p)) k i)
  | [], [], i, _ => by simp [Instr.findNow, mfind]
  | p :: l, e :: es, i, h => by
    simp only [List.map_cons, List.cons.injEq, Prod.mk.injEq] at h
    obtain ⟨⟨h1, h2⟩, h3⟩ := h
    have hb : (k == p.1) = decide (k = p.1) := by rw [Bool.eq_iff_iff]; simp
    simp only [Instr.findNow, h1, Instr.sameNow, if_true, List.map_cons, mfind, h2, hb]
    by_cases hk : k = p.1
    · simp [hk]
    · simp only [hk, decide_false, if_false]
      exact find_now (κ := κ) k g l es (i + 1) h3
  | [], _ :: _, _, h => by simp at h
  | _ :: _, [], _, h => by simp at h
theorem sbInt (n : Nat) (k : IntKind) (x : Int) : Instr.sameBits n (.int k x) (.int k x) = true := by cases n <;> simp [Instr.sameBits]
theorem ckI {P : Program} {kt : TypeId} {ik : IntKind} (hu : ∀ w, (underlying kt).run P w = .ok (.int ik) w) (e : Bool) (n : Nat) (x : Int) (w : World) : (Instr.checkKey e (n + 1) kt (.int ik x)).run P w = .ok () w := by simp [Instr.checkKey, hu]
theorem keyT_int {P : Program} {kt : TypeId} {ik : IntKind} (hu : ∀ w, (underlying kt).run P w = .ok (.int ik) w) : KeyT P kt (fun x : Int => Value.int ik x) := ⟨fun e k w => ckI hu e 9999 k w, fun k α l es g w h => by
  simp only [Instr.findKey, Sem.run_bind, hu, Result.andThen_ok]
  rw [find_now (κ := Int) k g l es 0 h]; simp, fun k => sbInt _ _ _⟩
theorem sameBits_agg (n : Nat) (l : List Value) (h : ∀ v ∈ l, Instr.sameBits n v v = true) : Instr.sameBits (n + 1) (.agg l.toArray) (.agg l.toArray) = true := by
  simp only [Instr.sameBits, beq_self_eq_true, Bool.true_and, List.all_eq_true]
  intro p hp
  obtain ⟨x, y⟩ := p
  have : x = y ∧ x ∈ l := by
    obtain ⟨i, hi, e⟩ := List.mem_iff_getElem.1 hp
    simp at e
    obtain ⟨rfl, rfl⟩ := e
    exact ⟨rfl, List.getElem_mem _⟩
  obtain ⟨rfl, hx⟩ := this
  exact h x hx
/-- An element's zero. -/
class TyV (P : Program) (t : TypeId) (v : outParam Value) : Prop where
  run : ∀ w, (zeroValue t).run P w = .ok v w

/-- Block b is a map. -/
def mp {κ : Type} (f : κ → Value) (b : Nat) (l : List (κ × Value)) : Asrt := fun h => ∃ (es : Array MapEntry) (c : Nat), es.toList.map (fun e => (e.key, e.val)) = l.map (fun p => (f p.1, p.2)) ∧ (∀ e ∈ es.toList, e.born < c) ∧ (es.toList.map (·.born)).Nodup ∧ h = PH.one b (.map es c)
class PickM {κ : Type} (f : outParam (κ → Value)) (b : Nat) (L : List Asrt) (l : outParam (List (κ × Value))) (R : outParam (List Asrt)) : Prop where
  out : Ent L (mp f b l :: R)
instance (priority := high) PickM.here {κ : Type} (f : κ → Value) (b : Nat) (l : List (κ × Value)) (L : List Asrt) : PickM f b (mp f b l :: L) l L := ⟨Ent.refl _⟩
instance PickM.there {κ : Type} (f : κ → Value) (A : Asrt) (b : Nat) (l : List (κ × Value)) (L R : List Asrt) [p : PickM f b L l R] : PickM f b (A :: L) l (A :: R) := ⟨(Ent.cons A p.out).trans (Ent.swap A _ R)⟩

section
variable {P : Program} {ro : Option Nat} {Q : Exit → Act → World → Prop} {W0 : World} {n : Nat} {K : Act → World → Prop} {E : Env} {ds : List Deferred} {B : PH} {L : List Asrt}
theorem Holds.mp {κ : Type} {f : κ → Value} {b : Nat} {l : List (κ × Value)} {w : World} (h : Holds W0 B (Sc.mp f b l :: L) w) : ∃ (es : Array MapEntry) (c : Nat), es.toList.map (fun e => (e.key, e.val)) = l.map (fun p => (f p.1, p.2)) ∧ (∀ e ∈ es.toList, e.born < c) ∧ (es.toList.map (·.born)).Nodup ∧ Holds W0 B (ob b (.map es c) :: L) w := by
  obtain ⟨hb, hp, k, d, ⟨h1, h2, d', rfl, ⟨es, c, e1, e2, e3, rfl⟩, s⟩, t⟩ := h
  exact ⟨es, c, e1, e2, e3, hb, hp, _, d, ⟨_, h2, d', rfl, rfl, s⟩, t⟩
theorem Ent.mp {κ : Type} {f : κ → Value} {b : Nat} {l : List (κ × Value)} {es : Array MapEntry} {c : Nat} (e1 : es.toList.map (fun e => (e.key, e.val)) = l.map (fun p => (f p.1, p.2))) (e2 : ∀ e ∈ es.toList, e.born < c) (e3 : (es.toList.map (·.born)).Nodup) (L : List Asrt) : Ent (ob b (.map es c) :: L) (Sc.mp f b l :: L) :=
  Ent.head L fun _ h => ⟨es, c, e1, e2, e3, h⟩
theorem o_mkm {κ : Type} (f : κ → Value) {t : TypeId} {d : Nat} {ty : TypeId} {pos : String} {af : Array Edge} {g : Option (Nat × Bool)} (hd : Nat.blt d n = true)
    (h : ∀ b, KGo W0 n K ((d, .map (some b)) :: E) ds B (mp f b [] :: L)) : KGo W0 n (wo P ro ⟨some d, .makeMap t none, ty, pos, af, g⟩ K Q) E ds B L := fun a w ha hw => by
  refine op_val (w' := { w with heap := w.heap.push (.map #[] 0) }) (v := .map (some w.heap.size)) ?_ (h _ _ _ (ha.put (Nat.le_of_ble_eq_true hd) _) ((hw.alloc _).ent (Ent.mp rfl (fun e he => by simp at he) (by simp) L)))
  simp [execOp, Instr.makeMap]
theorem run_gO {b c : Nat} {es : Array MapEntry} {w : World} (h : w.heap[b]? = some (.map es c)) : (getObj b).run P w = .ok (.map es c) w := by simp [getObj, Sem.run, h]
theorem run_sO {b c : Nat} {es : Array MapEntry} {o' : Obj} {w : World} (h : w.heap[b]? = some (.map es c)) : (setObj b o').run P w = .ok () (w.putObj b o') := by simp [setObj, Sem.run, h, World.putObj]
theorem run_getMap {κ : Type} {f : κ → Value} {b : Nat} {l : List (κ × Value)} {R : List Asrt} {w : World} [p : PickM f b L l R] (hw : Holds W0 B L w) : ∃ (es : Array MapEntry) (c : Nat), es.toList.map (fun e => (e.key, e.val)) = l.map (fun p => (f p.1, p.2)) ∧ w.heap[b]? = some (.map es c) := by
  obtain ⟨es, c, e1, _, _, h⟩ := (hw.ent p.out).mp
  exact ⟨es, c, e1, h.get⟩
theorem mfind_id {κ : Type} [DecidableEq κ] (l : List (κ × Value)) : (l.map fun p => (p.1, p.2)) = l := by simp
theorem run_look {κ : Type} [DecidableEq κ] {f : κ → Value} {t kt e b : Nat} {l : List (κ × Value)} {R : List Asrt} {w : World} {k : κ} {ok : Bool} {zv : Value} [hu : TyU P t (.map kt e)] [hk : KeyT P kt f] [hz : TyV P e zv] [p : PickM f b L l R] (hw : Holds W0 B L w) :
    (Instr.lookup t (.map (some b)) (f k) ok).run P w = .ok (if ok then .tuple #[(mget l k).getD zv, .bool (mget l k).isSome] else (mget l k).getD zv) w := by
  obtain ⟨es, c, e1, hg⟩ := run_getMap (p := p) hw
  have hf := hk.find k l es.toList (fun p => p.2) w e1
  rw [mfind_id] at hf
  have hm := mfind_get l k 0
  simp only [Instr.lookup, Sem.run_bind, hu.run, Result.andThen_ok, run_gO hg, Sem.run_pure, hk.check, hf]
  cases h : mfind l k 0 with
  | none => rw [h] at hm; simp only [Option.map_none] at hm; cases ok <;> simp [← hm, hz.run]
  | some x => rw [h] at hm; simp only [Option.map_some] at hm; cases ok <;> simp [← hm]
theorem y_lkok {κ : Type} [DecidableEq κ] {f : κ → Value} {t kt e b ty : Nat} {x y : Operand} {l : List (κ × Value)} {R : List Asrt} {zv : Value} [hu : TyU P t (.map kt e)] [p : PickM f b L l R] [hk : KeyT P kt f] [hz : TyV P e zv] (hx : ev E x = some (.map (some b))) (k : κ) (hy : ev E y = some (f k)) :
    Yld P (.lookup t x y true) ty E B L (.tuple #[(mget l k).getD zv, .bool (mget l k).isSome]) := fun _ _ _ a w _ _ _ _ ha hw => by
  have := run_look (P := P) (t := t) (k := k) (ok := true) (zv := zv) (p := p) hw
  simp only [if_true] at this
  simp only [execOp, ha.eval hx, ha.eval hy, Sem.run_bind, this, Result.andThen_ok, Sem.run_pure]
theorem y_lk {κ : Type} [DecidableEq κ] {f : κ → Value} {t kt e b ty : Nat} {x y : Operand} {l : List (κ × Value)} {R : List Asrt} {zv : Value} [hu : TyU P t (.map kt e)] [p : PickM f b L l R] [hk : KeyT P kt f] [hz : TyV P e zv] (hx : ev E x = some (.map (some b))) (k : κ) (hy : ev E y = some (f k)) :
    Yld P (.lookup t x y false) ty E B L ((mget l k).getD zv) := fun _ _ _ a w _ _ _ _ ha hw => by
  have := run_look (P := P) (t := t) (k := k) (ok := false) (zv := zv) (p := p) hw
  simp only [Bool.false_eq_true, if_false] at this
  simp only [execOp, ha.eval hx, ha.eval hy, Sem.run_bind, this, Result.andThen_ok, Sem.run_pure]
theorem run_setObj {b c : Nat} {es : Array MapEntry} {o' : Obj} {w : World} (hw : Holds W0 B (ob b (.map es c) :: L) w) : ∃ w', (setObj b o').run P w = .ok () w' ∧ Holds W0 B (ob b o' :: L) w' := by
  have hlt : b < w.heap.size := (Array.getElem?_eq_some_iff.1 hw.get).1
  refine ⟨w.putObj b o', run_sO hw.get, hw.upd ⟨hw.1.os, hw.1.tape, hw.1.output, by have := hw.1.size; simpa using this⟩ (World.putObj_heap_same hlt) (fun c hc => World.putObj_heap_other hc)⟩
theorem o_mup {κ : Type} [DecidableEq κ] {f : κ → Value} {t kt e b ty : Nat} {m x y : Operand} {pos : String} {af : Array Edge} {g : Option (Nat × Bool)} {l : List (κ × Value)} {R : List Asrt} {v : Value} [hu : TyU P t (.map kt e)] [p : PickM f b L l R] [hk : KeyT P kt f] (hm : ev E m = some (.map (some b))) (k : κ) (hx : ev E x = some (f k)) (hy : ev E y = some v)
    (h : KGo W0 n K E ds B (mp f b (mset l k v) :: R)) : KGo W0 n (wo P ro ⟨none, .mapUpdate t m x y, ty, pos, af, g⟩ K Q) E ds B L := fun a w ha hw => by
  obtain ⟨es, c, e1, e2, e3, hh⟩ := (hw.ent p.out).mp
  have hg := hh.get
  have hf := hk.find k l es.toList (fun p => p.2) w e1
  rw [mfind_id] at hf
  cases hc : mfind l k 0 with
  | none =>
    rw [hc] at hf
    obtain ⟨h1, h2⟩ := mfind_none v hc
    obtain ⟨w', hs, hw'⟩ := run_setObj (P := P) (o' := .map (es.push { key := f k, val := v, born := c }) (c + 1)) hh
    refine op_skip (w' := w') ?_ (h a w' ha (hw'.ent (Ent.mp ?_ ?_ ?_ R)))
    · simp only [execOp, ha.eval hm, ha.eval hx, ha.eval hy, Sem.run_bind, Instr.mapUpdate, hu.run, Result.andThen_ok, run_gO hg, Sem.run_pure, hk.check, hf, hs]
    · rw [h2]; simp [e1]
    · intro e he
      simp only [Array.toList_push, List.mem_append, List.mem_singleton] at he
      rcases he with he | rfl
      · have := e2 e he; omega
      · simp
    · simp only [Array.toList_push, List.map_append, List.map_cons, List.map_nil]
      refine List.nodup_append.2 ⟨e3, by simp, ?_⟩
      intro a ha b hb
      simp only [List.mem_singleton] at hb
      obtain ⟨e, he, rfl⟩ := List.mem_map.1 ha
      have := e2 e he
      omega
  | some q =>
    obtain ⟨j, u⟩ := q
    rw [hc] at hf
    obtain ⟨_, h2, h3, h4⟩ := mfind_some v hc
    simp only [Nat.sub_zero] at h2 h4
    have hj : (es.toList.map (fun e => (e.key, e.val)))[j]? = some (f k, u) := by rw [e1, List.getElem?_map, h2]; rfl
    rw [List.getElem?_map] at hj
    cases hej : es.toList[j]? with
    | none => rw [hej] at hj; cases hj
    | some e =>
      rw [hej] at hj
      simp only [Option.map_some, Option.some.injEq, Prod.mk.injEq] at hj
      have hes : es[j]? = some e := by simpa using hej
      obtain ⟨w', hs, hw'⟩ := run_setObj (P := P) (o' := .map (es.modify j fun e => { e with key := f k, val := v }) c) hh
      refine op_skip (w' := w') ?_ (h a w' ha (hw'.ent (Ent.mp ?_ ?_ ?_ R)))
      · simp only [execOp, ha.eval hm, ha.eval hx, ha.eval hy, Sem.run_bind, Instr.mapUpdate, hu.run, Result.andThen_ok, run_gO hg, Sem.run_pure, hk.check, hf, hes, Option.map_some, Option.getD_some, hj.1, Instr.keyThatStays, hk.bits, if_true, hs]
      · rw [h4, List.map_set, ← e1, Array.toList_modify]
        apply List.ext_getElem?
        intro i
        simp only [List.getElem?_map, List.getElem?_modify, List.getElem?_set, List.length_map]
        by_cases hi : j = i
        · subst hi
          have hlt : j < es.size := by simpa using (List.getElem?_eq_some_iff.1 hej).1
          simp [hlt]
        · simp [hi]
      · intro e' he'
        rw [Array.toList_modify] at he'
        obtain ⟨i, hi, rfl⟩ := List.mem_iff_getElem.1 he'
        rw [List.getElem_modify]
        have hi' : i < es.toList.length := by simpa using hi
        have := e2 _ (List.getElem_mem hi')
        split <;> simpa using this
      · have : (es.modify j fun e => { e with key := f k, val := v }).toList.map (·.born) = es.toList.map (·.born) := by
          rw [Array.toList_modify]
          apply List.ext_getElem?
          intro i
          simp only [List.getElem?_map, List.getElem?_modify]
          by_cases hi : j = i <;> cases es.toList[i]? <;> simp [hi]
        rw [this]; exact e3

/-! ### Rows that are owned -/
/-- What is owned, seen as a block: its elements, and what is spare. -/
theorem k_owopen {e sz m : Nat} {v : Value} {cs : List Value} {R : List Asrt} [p : PickW v L e sz m cs R]
    (h0 : v = .slice none 0 0 → m = 0 → cs = [] → KGo W0 n K E ds B R)
    (h : ∀ b cap sp, v = .slice (some ⟨b, 0, none⟩) m cap → m ≤ cap → cs.length = m * sz → sp.length = (cap - m) * sz → (∀ c ∈ cs, c.oneCell' = true) → (∀ c ∈ sp, c.oneCell' = true) → KGo W0 n K E ds B (bk b e [.row (m * sz) cs, .row ((cap - m) * sz) sp] :: R)) : KGo W0 n K E ds B L := fun a w ha hw => by
  rcases (hw.ent p.out).ow with ⟨e1, e2, e3, hh⟩ | ⟨b, cap, sp, e1, e2, e3, e4, e5, hh⟩
  · exact h0 e1 e2 e3 a w ha hh
  · have hsp : sp.length = (cap - m) * sz := by
      rw [List.length_append, e2] at e3
      rw [Nat.sub_mul]; omega
    refine h b cap sp e1 e4 e2 hsp (fun c hc => e5 c (List.mem_append_left _ hc)) (fun c hc => e5 c (List.mem_append_right _ hc)) a w ha ?_
    have he : (cs ++ sp) = flat [.row (m * sz) cs, .row ((cap - m) * sz) sp] := by simp [flat, Seg.cells]
    rw [he] at hh
    have hok : oks [.row (m * sz) cs, .row ((cap - m) * sz) sp] := ⟨⟨e2, fun c hc => e5 c (List.mem_append_left _ hc)⟩, ⟨hsp, fun c hc => e5 c (List.mem_append_right _ hc)⟩, trivial⟩
    exact hh.ent (Ent.bk hok R)
/-- A block of two rows is owned: its elements, and what is spare. -/
theorem k_owshut (b : Nat) {e k1 k2 : Nat} {xs ys : List Value} {R : List Asrt} (m cap sz : Nat) (cs sp : List Value) [p : PickB b L e [.row k1 xs, .row k2 ys] R] (hf : xs ++ ys = cs ++ sp) (hl : cs.length = m * sz) (hc : (cs ++ sp).length = cap * sz) (hm : m ≤ cap)
    (h : KGo W0 n K E ds B (ow e sz (.slice (some ⟨b, 0, none⟩) m cap) m cs :: R)) : KGo W0 n K E ds B L := fun a w ha hw => by
  obtain ⟨ho, hw2⟩ := (hw.ent p.out).bk
  have he : flat [.row k1 xs, .row k2 ys] = cs ++ sp := by rw [← hf]; simp [flat, Seg.cells]
  rw [he] at hw2
  refine h a w ha (hw2.ent (Ent.ow_row hl hc hm ?_ R))
  intro c hc'
  rw [← hf] at hc'
  rcases List.mem_append.1 hc' with hc' | hc'
  · exact ho.1.2 c hc'
  · exact ho.2.1.2 c hc'
end
end Sc
