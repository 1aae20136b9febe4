/- Contracts, calls and returns; values that are made. -/
import Derived.Test.YtokekdbdnonebaaEngD
namespace Sc
open Go

section
variable {P : Program} {ro : Option Nat} {Q : Exit → Act → World → Prop} {W0 : World} {n : Nat} {K : Act → World → Prop} {E : Env} {ds : List Deferred} {B : PH} {L : List Asrt}

/-- What a call of f comes to: called where Pre lies beside whatever else, and B on the pile, it returns; and Post tells the value, the pile behind it, and what lies there in Pre's place. -/
def Tri (P : Program) (f : FuncId) (args : List Value) (B : PH) (Pre : List Asrt) (Post : Value → PH → List Asrt → Prop) : Prop :=
  ∀ (W0 : World) (R : Asrt) (w : World), Holds W0 B (Pre ++ [R]) w → CallsIn (FR none) 0 P f args.toArray w fun e w' => ∃ v B' L', e = .returned v ∧ B.le B' ∧ Post v B' L' ∧ Holds W0 B' (L' ++ [R]) w'
theorem Tri.mono {f : FuncId} {args : List Value} {Pre : List Asrt} {Post Post' : Value → PH → List Asrt → Prop} (h : Tri P f args B Pre Post) (hp : ∀ v B' L', B.le B' → Post v B' L' → Post' v B' L') : Tri P f args B Pre Post' :=
  fun W0 R w hw => (h W0 R w hw).mono fun _ _ ⟨v, B', L', h1, h2, h3, h4⟩ => ⟨v, B', L', h1, h2, hp _ _ _ h2 h3, h4⟩

theorem stars_one (A : Asrt) (h : PH) : stars [A] h ↔ A h := by
  simp only [stars]
  constructor
  · rintro ⟨h1, h2, _, rfl, ha, rfl⟩; rw [PH.cup_emp]; exact ha
  · intro ha; exact ⟨h, PH.emp, PH.disj_emp _, (PH.cup_emp h).symm, ha, rfl⟩
theorem Ent.lump (M R : List Asrt) : Ent (M ++ R) (M ++ [stars R]) := fun h hs => by
  obtain ⟨h1, h2, d, rfl, s1, s2⟩ := (stars_append _ _ _).1 hs
  exact ⟨_, PH.le_refl _, (stars_append _ _ _).2 ⟨h1, h2, d, rfl, s1, (stars_one _ _).2 s2⟩⟩
theorem Ent.unlump (M R : List Asrt) : Ent (M ++ [stars R]) (M ++ R) := fun h hs => by
  obtain ⟨h1, h2, d, rfl, s1, s2⟩ := (stars_append _ _ _).1 hs
  exact ⟨_, PH.le_refl _, (stars_append _ _ _).2 ⟨h1, h2, d, rfl, s1, (stars_one _ _).1 s2⟩⟩

def argEnv : Nat → List Value → Env
  | _, [] => []
  | k, v :: r => (k, v) :: argEnv (k + 1) r
theorem argEnv_look : ∀ (l : List Value) (k t : Nat) (v : Value), look (argEnv k l) t = some v → k ≤ t ∧ l[t - k]? = some v
  | [], _, _, _, h => by cases h
  | u :: l, k, t, v, h => by
    simp only [argEnv, look] at h
    cases hb : Nat.beq k t with
    | true =>
      rw [hb] at h
      have := Nat.eq_of_beq_eq_true hb
      subst this
      simpa using h
    | false =>
      rw [hb] at h
      obtain ⟨h1, h2⟩ := argEnv_look l (k + 1) t v h
      refine ⟨by omega, ?_⟩
      rw [show t - k = (t - (k + 1)) + 1 by omega]
      simpa using h2

/-- What is asked where a function's body ends. -/
def RetQ (P : Program) (fn : Func) (W0 : World) (B : PH) (R : Asrt) (Post : Value → PH → List Asrt → Prop) : Exit → Act → World → Prop
  | .normal, a, w | .ret, a, w => LeavesInM (FR none) 0 P fn a.tmps (fun e w' => ∃ v B' L', e = .returned v ∧ B.le B' ∧ Post v B' L' ∧ Holds W0 B' (L' ++ [R]) w') a.defers .returning w
  | _, _, _ => False
theorem tri_of {f : FuncId} {fn : Func} {c : Code} {nn : Nat} {args : List Value} {Pre : List Asrt} {Post : Value → PH → List Asrt → Prop} (hf : P.funcs[f]? = some fn) (hb : fn.body = some c) (hn : fn.ntmps = nn) (hl : Nat.ble args.length nn = true)
    (h : ∀ W0 R, KGo W0 nn (wp P none c (RetQ P fn W0 B R Post)) (argEnv 0 args) [] B (Pre ++ [R])) : Tri P f args B Pre Post := by
  have hl := Nat.le_of_ble_eq_true hl
  intro W0 R w hw
  refine callsIn_of_wp_marks hf hb trivial ?_
  refine wpIn_mono (h W0 R _ w ?_ hw) ?_
  · refine ⟨?_, rfl, fun t v e => ?_⟩
    · simp only [Array.size_append, Array.size_replicate, List.size_toArray, hn]; omega
    · obtain ⟨_, h2⟩ := argEnv_look _ _ _ _ e
      simp only [Nat.sub_zero] at h2
      have hlt := (List.getElem?_eq_some_iff.1 h2).1
      rw [Array.getElem?_append_left (by simpa using hlt)]
      simpa using h2
  · intro e a w q
    cases e <;> first | exact q | exact q.elim

/-- The values of a function's results. -/
def ResOk (P : Program) (E : Env) (B : PH) (L : List Asrt) : List ResultVar → List Value → Prop
  | [], [] => True
  | .tmp t :: r, v :: vs => look E t = some v ∧ ResOk P E B L r vs
  | .cell a t :: r, v :: vs => (∃ ad, look E a = some (.pointer (some ad)) ∧ ∀ W0 w, Holds W0 B L w → (loadVar t ad).run P w = .ok v w) ∧ ResOk P E B L r vs
  | _, _ => False
theorem rs_nil : ResOk P E B L [] [] := trivial
theorem rs_t {t : Tmp} {v : Value} {r : List ResultVar} {vs : List Value} (h : look E t = some v) (k : ResOk P E B L r vs) : ResOk P E B L (.tmp t :: r) (v :: vs) := ⟨h, k⟩
theorem rs_c {a : Tmp} {t : TypeId} {v : Value} {r : List ResultVar} {vs : List Value} (h : ∃ ad, look E a = some (.pointer (some ad)) ∧ ∀ W0 w, Holds W0 B L w → (loadVar t ad).run P w = .ok v w) (k : ResOk P E B L r vs) : ResOk P E B L (.cell a t :: r) (v :: vs) := ⟨h, k⟩
theorem r_ld {t tb b o a : Nat} {s : List Seg} {R : List Asrt} {v : Value} [ht : TyA P t false] [p : PickB b L tb s R] (hx : look E a = some (.pointer (some ⟨b, o, none⟩))) (hv : sget s o = some v) :
    ∃ ad, look E a = some (.pointer (some ad)) ∧ ∀ W0 w, Holds W0 B L w → (loadVar t ad).run P w = .ok v w := ⟨_, hx, fun W0 w hw => by
  obtain ⟨h1, h2⟩ := hw.block (p := p)
  have h3 := sget_ok h2 hv
  simp only [loadVar, Sem.run_bind, ht.run, Result.andThen_ok, Bool.false_eq_true, if_false]
  rw [run_cell h1 (by simpa using h3)]⟩
theorem r_lda {t tb b o a m : Nat} {s x : List Seg} {R : List Asrt} [ht : TyA P t true] [hs : TyS P t m] [p : PickB b L tb s R] (hx : look E a = some (.pointer (some ⟨b, o, none⟩))) (hv : ssub s o m = some x) :
    ∃ ad, look E a = some (.pointer (some ad)) ∧ ∀ W0 w, Holds W0 B L w → (loadVar t ad).run P w = .ok (agg x) w := ⟨_, hx, fun W0 w hw => by
  obtain ⟨h1, h2⟩ := hw.block (p := p)
  obtain ⟨h3, h4, h5, h6⟩ := ssub_ok h2 hv
  simp only [loadVar, Sem.run_bind, ht.run, hs.run, Result.andThen_ok, if_true]
  rw [run_loadCells' h1 (by simpa using h6)]
  simp only [Result.andThen_ok, Sem.run_pure]
  rw [h3]; rfl⟩
def retv : List Value → Value
  | [v] => v
  | vs => .tuple vs.toArray
def resOne (tmps : Array Value) : ResultVar → Sem Value
  | .tmp t => pure (tmps.getD t undef)
  | .cell a t => do loadVar t (← asAddr (tmps.getD a undef))
theorem run_resOne {r : ResultVar} {rs : List ResultVar} {v : Value} {vs : List Value} {a : Act} {w : World} (h : ResOk P E B L (r :: rs) (v :: vs)) (ha : Knows n E ds a) (hw : Holds W0 B L w) : (resOne a.tmps r).run P w = .ok v w ∧ ResOk P E B L rs vs := by
  cases r with
  | tmp t =>
    obtain ⟨h1, h2⟩ := h
    exact ⟨by simp [resOne, Array.getD_eq_getD_getElem?, ha.env t v h1], h2⟩
  | cell p t =>
    obtain ⟨⟨ad, h1, h3⟩, h2⟩ := h
    have e : a.tmps.getD p undef = .pointer (some ad) := by simp [Array.getD_eq_getD_getElem?, ha.env p _ h1]
    exact ⟨by simp only [resOne, Sem.run_bind, e, asAddr, Sem.run_pure, Result.andThen_ok]; exact h3 W0 w hw, h2⟩
theorem results_eq (fn : Func) (tmps : Array Value) : results fn tmps = (do
    let vs ← fn.results.mapM (resOne tmps)
    pure (if h : vs.size = 1 then vs[0] else .tuple vs)) := by
  unfold results
  congr 1
theorem run_results {fn : Func} {rs : List ResultVar} {vs : List Value} {a : Act} {w : World} (hf : fn.results = rs.toArray) (h : ResOk P E B L rs vs) (ha : Knows n E ds a) (hw : Holds W0 B L w) (hl : rs.length ≤ 4) : (results fn a.tmps).run P w = .ok (retv vs) w := by
  rw [results_eq, hf]
  rcases rs with _ | ⟨r1, _ | ⟨r2, _ | ⟨r3, _ | ⟨r4, _ | ⟨r5, rs⟩⟩⟩⟩⟩ <;> rcases vs with _ | ⟨v1, _ | ⟨v2, _ | ⟨v3, _ | ⟨v4, _ | ⟨v5, vs⟩⟩⟩⟩⟩
  case nil.nil => simp [retv]
  case cons.nil.cons.nil =>
    obtain ⟨e1, _⟩ := run_resOne h ha hw
    simp [e1, retv]
  case cons.cons.nil.cons.cons.nil =>
    obtain ⟨e1, h⟩ := run_resOne h ha hw
    obtain ⟨e2, _⟩ := run_resOne h ha hw
    simp [e1, e2, retv]
  case cons.cons.cons.nil.cons.cons.cons.nil =>
    obtain ⟨e1, h⟩ := run_resOne h ha hw
    obtain ⟨e2, h⟩ := run_resOne h ha hw
    obtain ⟨e3, _⟩ := run_resOne h ha hw
    simp [e1, e2, e3, retv]
  case cons.cons.cons.cons.nil.cons.cons.cons.cons.nil =>
    obtain ⟨e1, h⟩ := run_resOne h ha hw
    obtain ⟨e2, h⟩ := run_resOne h ha hw
    obtain ⟨e3, h⟩ := run_resOne h ha hw
    obtain ⟨e4, _⟩ := run_resOne h ha hw
    simp [e1, e2, e3, e4, retv]
  all_goals first
    | (exfalso; simp only [List.length_cons] at hl; omega)
    | (exfalso; clear hl hf; (try cases r1) <;> (try cases r2) <;> (try cases r3) <;> (try cases r4) <;> simp [ResOk] at h)
theorem k_retn {fn : Func} {Post : Value → PH → List Asrt → Prop} {B0 : PH} {R : Asrt} {R' R'' L1 : List Asrt} {rs : List ResultVar} {vs : List Value} (hf : fn.results = rs.toArray) (hr : ResOk P E B L rs vs) (hle : B0.le B) (hp : Post (retv vs) B L1) [p : Part L1 L R'] [q : Pick R R' R''] (hl : rs.length ≤ 4 := by decide) :
    KGo W0 n (RetQ P fn W0 B0 R Post .ret) E [] B L := fun a w ha hw => by
  simp only [RetQ, ha.defers]
  refine ⟨retv vs, run_results hf hr ha hw hl, retv vs, B, L1, rfl, hle, hp, ?_⟩
  refine (hw.ent p.out).ent fun h hs => ?_
  obtain ⟨k1, k2, d, rfl, s1, s2⟩ := (stars_append _ _ _).1 hs
  obtain ⟨k3, l3, h1, h2, d3, rfl, s4, _⟩ := q.out k2 s2
  have l4 : h1.le k2 := PH.le_trans (PH.le_cup_left _ _) l3
  have d4 : k1.disj h1 := PH.disj_le d (PH.le_refl _) l4
  exact ⟨k1.cup h1, PH.le_cup (PH.le_cup_left _ _) (PH.le_trans l4 (PH.le_cup_right d)), (stars_append _ _ _).2 ⟨k1, h1, d4, rfl, s1, (stars_one _ _).2 s4⟩⟩
theorem k_retf {fn : Func} {Post : Value → PH → List Asrt → Prop} {B0 : PH} {R : Asrt} (h : KGo W0 n (RetQ P fn W0 B0 R Post .ret) E ds B L) : KGo W0 n (RetQ P fn W0 B0 R Post .normal) E ds B L := h

/-! ### Calls -/
theorem enter_run {f : FuncId} {args : Array Operand} {ats : Array TypeId} {vs : List Value} {a : Act} {w : World} {dst : Option Tmp} {ty : TypeId} {pos : String} {af : Array Edge} {g : Option (Nat × Bool)} [hf : FnC P f] (ha : Knows n E ds a) (hv : evs E args.toList = some vs) :
    (execOp a.eval ⟨dst, .call ⟨.value (.func f), args, ats⟩, ty, pos, af, g⟩).run P w = .ok (.enter f vs.toArray) w := by
  have e : args.map a.eval = vs.toArray := by
    rw [← Array.toList_inj]; simpa using ha.evals hv
  simp [execOp, resolve, e, Act.eval, Deferred.ofValue, invoke, hf.run]
theorem o_call {f : FuncId} {args : Array Operand} {ats : Array TypeId} {vs : List Value} {d : Nat} {ty : TypeId} {pos : String} {af : Array Edge} {g : Option (Nat × Bool)} {Pre R : List Asrt} {Post : Value → PH → List Asrt → Prop} [hf : FnC P f]
    (hv : evs E args.toList = some vs) (T : Tri P f vs B Pre Post) [p : Part Pre L R] (hd : Nat.blt d n = true) (h : ∀ v B' L', B.le B' → Post v B' L' → KGo W0 n K ((d, v) :: E) ds B' (L' ++ R)) :
    KGo W0 n (wo P ro ⟨some d, .call ⟨.value (.func f), args, ats⟩, ty, pos, af, g⟩ K Q) E ds B L := fun a w ha hw => by
  refine op_enter (enter_run ha hv) ?_
  refine (T W0 (stars R) w ((hw.ent p.out).ent (Ent.lump _ _))).mono ?_
  rintro e w' ⟨v, B', L', rfl, hle, hp, hw'⟩
  exact ⟨v, rfl, h v B' L' hle hp _ w' (ha.put (Nat.le_of_ble_eq_true hd) v) (hw'.ent (Ent.unlump _ _))⟩
theorem o_callv {f : FuncId} {x : Operand} {fi ca : Array Value} {args : Array Operand} {ats : Array TypeId} {vs us : List Value} {d : Nat} {ty : TypeId} {pos : String} {af : Array Edge} {g : Option (Nat × Bool)} {Pre R : List Asrt} {Post : Value → PH → List Asrt → Prop} [hf : FnC P f]
    (hx : ev E x = some (.func (.func f) fi ca)) (hv : evs E args.toList = some vs) (hu : fi.toList ++ vs ++ ca.toList = us) (T : Tri P f us B Pre Post) [p : Part Pre L R] (hd : Nat.blt d n = true) (h : ∀ v B' L', B.le B' → Post v B' L' → KGo W0 n K ((d, v) :: E) ds B' (L' ++ R)) :
    KGo W0 n (wo P ro ⟨some d, .call ⟨.value x, args, ats⟩, ty, pos, af, g⟩ K Q) E ds B L := fun a w ha hw => by
  refine op_enter (f := f) (args := us.toArray) ?_ ?_ (w' := w)
  · have e : args.map a.eval = vs.toArray := by
      rw [← Array.toList_inj]; simpa using ha.evals hv
    have e2 : fi ++ vs.toArray ++ ca = us.toArray := by rw [← Array.toList_inj]; simpa using hu
    simp only [execOp, resolve, e, ha.eval hx, Deferred.ofValue, invoke, hf.run, Sem.run_bind, Sem.run_pure, Result.andThen_ok]
    rw [e2]
  · refine (T W0 (stars R) w ((hw.ent p.out).ent (Ent.lump _ _))).mono ?_
    rintro e w' ⟨v, B', L', rfl, hle, hp, hw'⟩
    exact ⟨v, rfl, h v B' L' hle hp _ w' (ha.put (Nat.le_of_ble_eq_true hd) v) (hw'.ent (Ent.unlump _ _))⟩

/-! ### Values -/
theorem y_len {t : TypeId} {x : Operand} {ty : TypeId} {a : Option Addr} {m c : Nat} {e : TypeId} [hu : TyU P t (.slice e)] (hx : ev E x = some (.slice a m c)) :
    Yld P (.call ⟨.builtin .len, #[x], #[t]⟩) ty E B L (.int .i64 (m : Int)) := fun _ _ _ ac w _ _ _ _ ha _ => by
  simp [execOp, resolve, ha.eval hx, invoke, builtin, Builtin.len_, hu.run, goInt]
theorem y_lens {t : TypeId} {x : Operand} {ty : TypeId} {s : ByteArray} [hu : TyU P t .string] (hx : ev E x = some (.string s)) :
    Yld P (.call ⟨.builtin .len, #[x], #[t]⟩) ty E B L (.int .i64 (s.size : Int)) := fun _ _ _ ac w _ _ _ _ ha _ => by
  simp [execOp, resolve, ha.eval hx, invoke, builtin, Builtin.len_, hu.run, goInt]
theorem y_ex {x : Operand} {i : Nat} {ty : TypeId} {vs : Array Value} {v : Value} (hx : ev E x = some (.tuple vs)) (hi : vs[i]? = some v) : Yld P (.extract x i) ty E B L v := fun _ _ _ a w _ _ _ _ ha _ => by
  simp [execOp, ha.eval hx, Instr.extract, hi]
theorem y_mf {fn : Fn} {fi ca : Array Operand} {us vs : List Value} {ty : TypeId} (h1 : evs E fi.toList = some us) (h2 : evs E ca.toList = some vs) : Yld P (.makeFunc fn fi ca) ty E B L (.func fn us.toArray vs.toArray) := fun _ _ _ a w _ _ _ _ ha _ => by
  have e1 : fi.map a.eval = us.toArray := by rw [← Array.toList_inj]; simpa using ha.evals h1
  have e2 : ca.map a.eval = vs.toArray := by rw [← Array.toList_inj]; simpa using ha.evals h2
  simp [execOp, Instr.makeFunc, e1, e2]
theorem y_cv {s t ty : TypeId} {x : Operand} {k k' : IntKind} {m : Int} {d : TypeDesc} [h1 : TyU P s d] [h2 : TyU P t (.int k)] (hx : ev E x = some (.int k' m)) : Yld P (.convert s t x) ty E B L (.int k (k.wrap m)) := fun _ _ _ a w _ _ _ _ ha _ => by
  simp only [execOp, ha.eval hx, convert, Sem.run_bind, h1.run, h2.run, Result.andThen_ok]
  cases d <;> simp [Conv.intToInt]
/-- x[lo:hi] of a slice. -/
theorem y_sl {t e sz ty : TypeId} {x lo hi : Operand} {a : Addr} {b o m c i j : Nat} {k k' : IntKind} {il ih : Int} [hu : TyU P t (.slice e)] [hs : TyS P e sz] (hx : ev E x = some (.slice (some ⟨b, o, none⟩) m c)) (hl : ev E lo = some (.int k il)) (hh : ev E hi = some (.int k' ih))
    (hi' : il = (i : Int)) (hj' : ih = (j : Int)) (hij : i ≤ j) (hj : j ≤ c) (ha : (if c = i then (⟨b, o, none⟩ : Addr) else ⟨b, o + i * sz, none⟩) = a) : Yld P (.slice t x (some lo) (some hi) none) ty E B L (.slice (some a) (j - i) (c - i)) := fun _ _ _ ac w _ _ _ _ hk _ => by
  subst hi' hj' ha
  have hij' : (i : Int) ≤ (j : Int) := by omega
  have hj2 : (j : Int) ≤ (c : Int) := by omega
  simp [execOp, hk.eval hx, hk.eval hl, hk.eval hh, Instr.sliceAt, Instr.slice, hu.run, hs.run, Instr.sliceBounds, Instr.sliceBound, asIntOf, Addr.add_eq, hij, hj]
  split <;> rfl
theorem y_slh {t e sz ty : TypeId} {x hi : Operand} {a : Option Addr} {m c j : Nat} {k' : IntKind} {ih : Int} [hu : TyU P t (.slice e)] [hs : TyS P e sz] (hx : ev E x = some (.slice a m c)) (hh : ev E hi = some (.int k' ih))
    (hj' : ih = (j : Int)) (hj : j ≤ c) : Yld P (.slice t x none (some hi) none) ty E B L (.slice a j c) := fun _ _ _ ac w _ _ _ _ hk _ => by
  subst hj'
  cases a <;> simp [execOp, hk.eval hx, hk.eval hh, Instr.sliceAt, Instr.slice, hu.run, hs.run, Instr.sliceBounds, Instr.sliceBound, asIntOf, hj, Addr.add]
theorem y_sll {t e sz ty : TypeId} {x lo : Operand} {a : Addr} {b o m c i : Nat} {k : IntKind} {il : Int} [hu : TyU P t (.slice e)] [hs : TyS P e sz] (hx : ev E x = some (.slice (some ⟨b, o, none⟩) m c)) (hl : ev E lo = some (.int k il))
    (hi' : il = (i : Int)) (hij : i ≤ m) (ha : (if c = i then (⟨b, o, none⟩ : Addr) else ⟨b, o + i * sz, none⟩) = a) : Yld P (.slice t x (some lo) none none) ty E B L (.slice (some a) (m - i) (c - i)) := fun _ _ _ ac w _ _ _ _ hk _ => by
  subst hi' ha
  simp [execOp, hk.eval hx, hk.eval hl, Instr.sliceAt, Instr.slice, hu.run, hs.run, Instr.sliceBounds, Instr.sliceBound, asIntOf, Addr.add_eq, hij]
  split <;> rfl
/-- A slice of an array behind an address. -/
theorem y_sla {t e sz ty : TypeId} {x : Operand} {b o m : Nat} [hu : TyU P t (.array m e)] [hs : TyS P e sz] (hx : ev E x = some (.pointer (some ⟨b, o, none⟩))) : Yld P (.slice t x none none none) ty E B L (.slice (some ⟨b, o, none⟩) m m) := fun _ _ _ ac w _ _ _ _ hk _ => by
  simp [execOp, hk.eval hx, Instr.sliceAt, Instr.sureAddr, hu.run, hs.run, Instr.sliceBounds, Addr.add]

/-- Segments of so many values, one behind the other. -/
class SegsL (vs : List (Nat × Value)) (ss : outParam (List (Nat × List Seg))) : Prop where
  ok : ∀ i : Nat, (vs[i]?).map (·.1) = (ss[i]?).map (·.1) ∧ ∀ v s, vs[i]? = some v → ss[i]? = some s → v.2.cells = (flat s.2).toArray ∧ oks s.2
  len : vs.length = ss.length
instance : SegsL [] [] := ⟨fun _ => ⟨rfl, fun _ _ h => by cases h⟩, rfl⟩
instance (i : Nat) (v : Value) (s : List Seg) (r : List (Nat × Value)) (rs : List (Nat × List Seg)) [h : SegsOf v s] [k : SegsL r rs] : SegsL ((i, v) :: r) ((i, s) :: rs) := ⟨fun j => by
  cases j with
  | zero => exact ⟨rfl, fun v' s' e1 e2 => by cases e1; cases e2; exact ⟨h.cells, h.ok⟩⟩
  | succ j => simpa using k.ok j, by simp [k.len]⟩
def evp (E : Env) : List (Nat × Operand) → Option (List (Nat × Value))
  | [] => some []
  | (i, x) :: r => match ev E x with
    | some v => match evp E r with
      | some vs => some ((i, v) :: vs)
      | none => none
    | none => none
theorem Knows.evps {a : Act} (h : Knows n E ds a) : ∀ {l : List (Nat × Operand)} {vs : List (Nat × Value)}, evp E l = some vs → (l.map fun p => (p.1, a.eval p.2)) = vs
  | [], vs, e => by simp [evp] at e; subst e; rfl
  | (i, x) :: r, vs, e => by
    simp only [evp] at e
    split at e
    · rename_i v hv
      split at e
      · rename_i us hu
        cases e
        simp only [List.map_cons, h.eval hv, h.evps hu]
      · cases e
    · cases e
/-- Segments laid over others, part by part: offs: where the parts lie. -/
def bfill (offs : List (Nat × Nat)) : List Seg → List (Nat × List Seg) → Option (List Seg)
  | z, [] => some z
  | z, (i, s) :: r => match offs[i]? with
    | some (off, m) => bif Nat.beq (swidth s) m then (match sput z off s with
      | some z' => bfill offs z' r
      | none => none) else none
    | none => none
/-- Where the parts of a struct lie, and their sizes. -/
class TyP (P : Program) (t : TypeId) (offs : outParam (List (Nat × Nat))) : Prop where
  run : ∀ w (ps : Array (Nat × Value)) z cells, (zeroValue t).run P w = .ok z w → Instr.fill (fun i => offs[i]?) z.cells ps.toList = some cells → (Instr.build t ps).run P w = .ok (.agg cells) w
theorem fold_set : ∀ (vs : List Value) (off i : Nat) (cs : List Value), off + i + vs.length ≤ cs.length →
    (vs.zipIdx i).foldl (fun (c : Array Value) (p : Value × Nat) => c.setIfInBounds (off + p.2) p.1) cs.toArray = (cs.take (off + i) ++ vs ++ cs.drop (off + i + vs.length)).toArray
  | [], off, i, cs, h => by simp
  | v :: vs, off, i, cs, h => by
    simp only [List.length_cons] at h
    simp only [List.zipIdx_cons, List.foldl_cons]
    rw [show (cs.toArray.setIfInBounds (off + i) v) = (cs.set (off + i) v).toArray by simp]
    rw [fold_set vs off (i + 1) (cs.set (off + i) v) (by simp; omega)]
    congr 1
    rw [show off + (i + 1) = off + i + 1 by omega, List.take_succ_eq_append_getElem (by simp; omega), List.getElem_set_self, List.take_set_of_le (Nat.le_refl _), List.drop_set_of_lt (by omega)]
    simp [Nat.add_assoc, Nat.add_comm 1]
theorem fill_ok {offs : List (Nat × Nat)} : ∀ {ps : List (Nat × Value)} {ss : List (Nat × List Seg)} {z x : List Seg}, oks z → SegsL ps ss → bfill offs z ss = some x → Instr.fill (fun i => offs[i]?) (flat z).toArray ps = some (flat x).toArray ∧ oks x
  | [], [], z, x, hz, _, h => by simp only [bfill, Option.some.injEq] at h; subst h; exact ⟨rfl, hz⟩
  | [], _ :: _, _, _, _, hs, _ => by have := hs.len; simp at this
  | _ :: _, [], _, _, _, hs, _ => by have := hs.len; simp at this
  | (i, v) :: ps, (j, s) :: ss, z, x, hz, hs, h => by
    have h0 := hs.ok 0
    simp only [List.getElem?_cons_zero, Option.map_some, Option.some.injEq] at h0
    obtain ⟨rfl, h1⟩ := h0
    obtain ⟨hc, ho⟩ := h1 _ _ rfl rfl
    have hs' : SegsL ps ss := ⟨fun j => by simpa using hs.ok (j + 1), by have := hs.len; simpa using this⟩
    simp only [bfill] at h
    split at h
    · rename_i off m hoff
      cases hb : Nat.beq (swidth s) m with
      | false => rw [hb] at h; cases h
      | true =>
        rw [hb] at h
        simp only [cond_true] at h
        have hm := Nat.eq_of_beq_eq_true hb
        split at h
        · rename_i z' hz'
          obtain ⟨e1, e2, e3⟩ := sput_ok ho hz hz'
          have ih := fill_ok (offs := offs) e2 hs' h
          refine ⟨?_, ih.2⟩
          simp only at hc
          simp only [Instr.fill, hoff, hc]
          rw [swidth_eq ho] at hm
          rw [if_neg (by
            simp only [List.size_toArray, ne_eq, Bool.or_eq_true, decide_eq_true_eq, not_or, Decidable.not_not]
            refine ⟨hm, ?_⟩
            simp only [hm] at e3 ⊢
            omega)]
          have := fold_set (flat s) off 0 (flat z) (by omega)
          rw [← Array.foldl_toList]
          simp only [Array.toList_zipIdx]
          simp only [Nat.add_zero] at this
          rw [this, ← e1]
          exact ih.1
        · cases h
    · cases h
theorem y_bd {t ty : TypeId} {ps : Array (Nat × Operand)} {vs : List (Nat × Value)} {ss : List (Nat × List Seg)} {offs : List (Nat × Nat)} {z x x' : List Seg} [hz : TyZ P t z] [hp : TyP P t offs] (hv : evp E ps.toList = some vs) [hs : SegsL vs ss] (hf : bfill offs z ss = some x) [ln : LNorm x x'] :
    Yld P (.build t ps) ty E B L (agg x') := fun _ _ _ a w _ _ _ _ ha _ => by
  rw [← ln.eq]
  obtain ⟨zv, hz1, hz2⟩ := hz.run w
  have e : (ps.map fun p => (p.1, a.eval p.2)) = vs.toArray := by rw [← Array.toList_inj]; simpa using ha.evps hv
  have e2 : (ps.map fun (i, x) => (i, a.eval x)) = vs.toArray := e
  simp only [execOp, Sem.run_bind]
  rw [e2, hp.run w vs.toArray zv (flat x).toArray hz1 (by rw [hz2]; exact (fill_ok hz.ok hs hf).1)]
  rfl
end
end Sc
