/- Ranges over functions: what an iterator promises, and how a loop over it is walked. -/
import Derived.Test.YtokekdbdnonebaaEngH
namespace Sc
open Go

section
variable {P : Program} {ro : Option Nat} {Q : Exit → Act → World → Prop} {W0 : World} {n : Nat} {K : Act → World → Prop} {E : Env} {ds : List Deferred} {B : PH} {L : List Asrt}

theorem Ent.perm {L M : List Asrt} (h : L.Perm M) : Ent L M := by
  induction h with
  | nil => exact Ent.refl _
  | cons A _ ih => exact Ent.cons A ih
  | swap A B L => exact Ent.swap B A L
  | trans _ _ ih1 ih2 => exact ih1.trans ih2
/-- What a call of the loop l's yield comes to. -/
def YTri (P : Program) (l : Nat) (args : List Value) (B : PH) (Pre : List Asrt) (Post : Bool → PH → List Asrt → Prop) : Prop :=
  ∀ (W0 : World) (R : Asrt) (w : World), Holds W0 B (Pre ++ [R]) w → ∃ fn tmps assign body, (Instr.yield l args.toArray).run P w = .ok (.round l fn tmps assign body) w ∧
    RoundIn (FR none) 0 P l fn tmps assign body w fun e w' => ∃ ok B' L', e = .returned (.bool ok) ∧ B.le B' ∧ Post ok B' L' ∧ Holds W0 B' (L' ++ [R]) w'

theorem op_round {o : Oper} {a : Act} {w w' : World} {l : Nat} {f : FuncId} {tmps : Array Value} {assign body : Code} (h : (execOp a.eval o).run P w = .ok (.round l f tmps assign body) w')
    (hc : RoundIn (FR none) 0 P l f tmps assign body w' fun e w'' => ∃ v, e = .returned v ∧ K (a.put o.dst v) w'') : o.wpIn (FR ro) 0 P a w K Q := by
  refine ⟨about_any _ _ _, ?_⟩
  rw [semAt_val h (fun d e => by cases e)]
  refine ⟨fun h => (by cases h), ?_⟩
  have hc' : RoundIn (FR ro) 0 P l f tmps assign body w' fun e w'' => ∃ v, e = .returned v ∧ K (a.put o.dst v) w'' := hc
  exact hc'.mono fun e w'' ⟨v, he, hk⟩ => by subst he; exact hk
/-- A call of yield. -/
theorem o_yield {l : Nat} {x : Operand} {args : Array Operand} {ats : Array TypeId} {vs : List Value} {d : Nat} {ty : TypeId} {pos : String} {af : Array Edge} {g : Option (Nat × Bool)} {Pre R : List Asrt} {Post : Bool → PH → List Asrt → Prop}
    (hx : ev E x = some (.func (.yield l) #[] #[])) (hv : evs E args.toList = some vs) (T : YTri P l vs B Pre Post) [p : Part Pre L R] (hd : Nat.blt d n = true) (h : ∀ ok B' L', B.le B' → Post ok B' L' → KGo W0 n K ((d, .bool ok) :: E) ds B' (L' ++ R)) :
    KGo W0 n (wo P ro ⟨some d, .call ⟨.value x, args, ats⟩, ty, pos, af, g⟩ K Q) E ds B L := fun a w ha hw => by
  obtain ⟨fn, tmps, assign, body, hy, hr⟩ := T W0 (stars R) w ((hw.ent p.out).ent (Ent.lump _ _))
  refine op_round (w' := w) (l := l) (f := fn) (tmps := tmps) (assign := assign) (body := body) ?_ (hr.mono ?_)
  · have e : args.map a.eval = vs.toArray := by
      rw [← Array.toList_inj]; simpa using ha.evals hv
    simp only [execOp, resolve, e, ha.eval hx, Deferred.ofValue, invoke, Sem.run_bind, Sem.run_pure, Result.andThen_ok]
    simpa using hy
  · rintro e w' ⟨ok, B', L', rfl, hle, hp, hw'⟩
    exact ⟨.bool ok, rfl, h ok B' L' hle hp _ w' (ha.put (Nat.le_of_ble_eq_true hd) _) (hw'.ent (Ent.unlump _ _))⟩

/-- An iterator's promise: it hands out N things, of which el tells, one by one, as long as yield hands back true. -/
def Iter (P : Program) (gf : FuncId) (ca : List Value) (B : PH) (Own : List Asrt) (N : Nat) (el : Nat → PH → List Value → Prop) : Prop :=
  ∀ (l : Nat) (J : Nat → PH → List Asrt → Prop) (Z : PH → List Asrt → Prop) (B0 : PH), B.le B0 →
    (∀ i B1 B2 L, B1.le B2 → J i B1 L → J i B2 L) → (∀ B1 B2 L, B1.le B2 → Z B1 L → Z B2 L) →
    (∀ i vs B1 L1, i < N → B0.le B1 → el i B1 vs → J i B1 L1 → YTri P l vs B1 L1 fun ok B2 L2 => (ok = true ∧ J (i + 1) B2 L2) ∨ (ok = false ∧ Z B2 L2)) →
    ∀ L0, J 0 B0 L0 → Tri P gf (.func (.yield l) #[] #[] :: ca) B0 (Own ++ L0) fun _ B' L' => ∃ L1, L' = Own ++ L1 ∧ (J N B' L1 ∨ Z B' L1)
theorem Iter.mono {gf : FuncId} {ca : List Value} {Own : List Asrt} {N : Nat} {el : Nat → PH → List Value → Prop} {B' : PH} (h : Iter P gf ca B Own N el) (l : B.le B') : Iter P gf ca B' Own N el :=
  fun k J Z B0 h0 => h k J Z B0 (PH.le_trans l h0)

/-- What is asked where a round ends. -/
def RQ (W0 : World) (F : Asrt) (B1 : PH) (Jn : PH → List Asrt → Prop) (Z : Code → PH → List Asrt → Prop) : Exit → Act → World → Prop
  | .normal, _, w => ∃ B' L', B1.le B' ∧ Jn B' L' ∧ Holds W0 B' (L' ++ [F]) w
  | .ret, _, w => ∃ B' L', B1.le B' ∧ Z .ret B' L' ∧ Holds W0 B' (L' ++ [F]) w
  | .exit id, _, w => ∃ B' L', B1.le B' ∧ Z (.exit id) B' L' ∧ Holds W0 B' (L' ++ [F]) w
  | _, _, _ => False
/-- The record is busy from here on. -/
def Sw (W0 : World) (n : Nat) (F1 F2 : Asrt) (K : Act → World → Prop) : Act → World → Prop := fun a w => ∃ (E : Env) (B : PH) (R : List Asrt), Knows n E [] a ∧ Holds W0 B (F1 :: R) w ∧ KGo W0 n K E [] B (F2 :: R)
theorem k_sw {F1 F2 : Asrt} {R : List Asrt} [p : Pick F1 L R] (h : KGo W0 n K E [] B (F2 :: R)) : KGo W0 n (Sw W0 n F1 F2 K) E [] B L := fun a w ha hw => ⟨E, B, R, ha, hw.ent p.out, h⟩
theorem holds_in {w : World} {L1 R' R'' : List Asrt} {F : Asrt} (hw : Holds W0 B L w) (p : Part L1 L R') (q : Pick F R' R'') : Holds W0 B (L1 ++ [F]) w := by
  refine (hw.ent p.out).ent fun h hs => ?_
  obtain ⟨k1, k2, d, rfl, s1, s2⟩ := (stars_append _ _ _).1 hs
  obtain ⟨k3, l3, h1, h2, d3, rfl, s4, _⟩ := q.out k2 s2
  have l4 : h1.le k2 := PH.le_trans (PH.le_cup_left _ _) l3
  have d4 : k1.disj h1 := PH.disj_le d (PH.le_refl _) l4
  exact ⟨k1.cup h1, PH.le_cup (PH.le_cup_left _ _) (PH.le_trans l4 (PH.le_cup_right d)), (stars_append _ _ _).2 ⟨k1, h1, d4, rfl, s1, (stars_one _ _).2 s4⟩⟩
theorem k_rqn {F : Asrt} {B1 : PH} {Jn : PH → List Asrt → Prop} {Z : Code → PH → List Asrt → Prop} {L1 R' R'' : List Asrt} (hle : B1.le B) (hJ : Jn B L1) [p : Part L1 L R'] [q : Pick F R' R''] : KGo W0 n (RQ W0 F B1 Jn Z .normal) E ds B L :=
  fun _ _ _ hw => ⟨B, L1, hle, hJ, holds_in hw p q⟩
theorem k_rqr {F : Asrt} {B1 : PH} {Jn : PH → List Asrt → Prop} {Z : Code → PH → List Asrt → Prop} {L1 R' R'' : List Asrt} (hle : B1.le B) (hJ : Z .ret B L1) [p : Part L1 L R'] [q : Pick F R' R''] : KGo W0 n (RQ W0 F B1 Jn Z .ret) E ds B L :=
  fun _ _ _ hw => ⟨B, L1, hle, hJ, holds_in hw p q⟩
theorem k_rqx {F : Asrt} {B1 : PH} {Jn : PH → List Asrt → Prop} {Z : Code → PH → List Asrt → Prop} {L1 R' R'' : List Asrt} {id : Nat} (hle : B1.le B) (hJ : Z (.exit id) B L1) [p : Part L1 L R'] [q : Pick F R' R''] : KGo W0 n (RQ W0 F B1 Jn Z (.exit id)) E ds B L :=
  fun _ _ _ hw => ⟨B, L1, hle, hJ, holds_in hw p q⟩

def penv (ps : List Tmp) (vs : List Value) (E : Env) : Env := match ps, vs with
  | p :: ps, v :: vs => penv ps vs ((p, v) :: E)
  | _, _ => E
theorem knows_penv {a : Act} : ∀ (ps : List Tmp) (vs : List Value) (tmps : Array Value) (E : Env), ps.length = vs.length → (∀ p ∈ ps, p < n) → Knows n E [] { tmps := tmps, defers := [] } →
    Knows n (penv ps vs E) [] { tmps := (ps.zip vs).foldl (fun t (p, v) => t.setIfInBounds p v) tmps, defers := [] }
  | [], [], tmps, E, _, _, h => h
  | p :: ps, v :: vs, tmps, E, hl, hp, h => by
    simp only [List.zip_cons_cons, List.foldl_cons, penv]
    exact knows_penv (a := a) ps vs _ _ (by simpa using hl) (fun q hq => hp q (List.mem_cons_of_mem _ hq)) (h.put (hp p List.mem_cons_self) v)
  | [], _ :: _, _, _, hl, _, _ => by simp at hl
  | _ :: _, [], _, _, hl, _, _ => by simp at hl

/-- The mark that a range over a function leaves among the deferred calls. -/
abbrev dmark (D : Nat) : Deferred := { target := .collected D, args := #[] }
abbrev dblk (D : Nat) : Asrt := ob D (.deferred (some []))

theorem k_range {g : Operand} {ps : Array Tmp} {assign body : Code} {gf : FuncId} {ca : List Value} {Own R : List Asrt} {N : Nat} {el : Nat → PH → List Value → Prop} [hf : FnC P gf] (hg : ev E g = some (.func (.func gf) #[] ca.toArray))
    (I : Iter P gf ca B Own N el) (hps : (ps.toList.all fun p => Nat.blt p n) = true) (J : Nat → PH → List Asrt → Prop) (Z : Code → PH → List Asrt → Prop) (hJm : ∀ i B1 B2 L, B1.le B2 → J i B1 L → J i B2 L) (hZm : ∀ c B1 B2 L, B1.le B2 → Z c B1 L → Z c B2 L) (L0 : List Asrt) [p : Part (Own ++ L0) L R] (h0 : J 0 B L0)
    (hlen : ∀ i B1 vs, el i B1 vs → vs.length = ps.toList.length)
    (hbody : ∀ l i vs B1 L1 F1 F2 (W0 : World), i < N → B.le B1 → el i B1 vs → J i B1 L1 → KGo W0 n (wp P (some l) assign (Exit.then (Sw W0 n F1 F2 (wp P (some l) body (RQ W0 F2 B1 (J (i + 1)) Z))) (fun _ _ _ => False))) (penv ps.toList vs E) [] B1 (L1 ++ [F1]))
    (hdone : ∀ D B' L1, B.le B' → J N B' L1 → KGo W0 n (Q .normal) E (dmark D :: ds) B' (dblk D :: (Own ++ L1) ++ R))
    (hstop : ∀ D c B' L1, B.le B' → Z c B' L1 → KGo W0 n (wp P none c Q) E (dmark D :: ds) B' (dblk D :: (Own ++ L1) ++ R)) : KGo W0 n (wp P none (.rangeFunc g ps assign body) Q) E ds B L := by
  intro a w ha hw
  refine wpIn_rangeFunc fun fn _ => ?_
  let D := w.heap.size
  let rec' : LoopState → Option Code → Loop := fun st pe => { state := st, pending := pe, fn, tmps := a.tmps, params := ps, assign, body, defers := D }
  let W1 : World := { { w with heap := w.heap.push (.deferred (some [])) } with heap := (w.heap.push (.deferred (some []))).push (.loop (rec' .ready none)) }
  let l := D + 1
  have hW1 : Holds W0 B (ob l (.loop (rec' .ready none)) :: dblk D :: L) W1 := by
    have h1 := hw.alloc (.deferred (some []))
    have h2 := h1.alloc (.loop (rec' .ready none))
    have e : (w.heap.push (.deferred (some []))).size = l := by simp [l, D]
    simp only [e] at h2
    exact h2
  have hent := run_enterLoop_outer (P := P) (w := w) fn a.tmps ps assign body
  refine ⟨l, [dmark D], W1, { target := .fn (.func gf) ca.toArray, args := #[.func (.yield l) #[] #[]] }, W1, gf, (.func (.yield l) #[] #[] :: ca).toArray, W1, ?_, ?_, fun f' _ => trivial, ?_, fun h => (by cases h), ?_⟩
  · exact hent
  · simp only [resolve, rangeCall, ha.eval hg, Deferred.ofValue, List.map_toArray, List.map_cons, List.map_nil]
    simp [Act.eval]
  · simp only [invoke]
    rw [show (#[.func (.yield l) #[] #[]] ++ ca.toArray : Array Value) = (.func (.yield l) #[] #[] :: ca).toArray by rw [← Array.toList_inj]; simp, hf.run]
  · -- the iterator, at the loop's own invariant
    let J' : Nat → PH → List Asrt → Prop := fun i B1 L1 => ∃ M, L1 = ob l (.loop (rec' .ready none)) :: dblk D :: M ∧ J i B1 M
    let Z' : PH → List Asrt → Prop := fun B1 L1 => ∃ c M, L1 = ob l (.loop (rec' .done (some c))) :: dblk D :: M ∧ Z c B1 M
    have hround : ∀ i vs B1 L1, i < N → B.le B1 → el i B1 vs → J' i B1 L1 → YTri P l vs B1 L1 fun ok B2 L2 => (ok = true ∧ J' (i + 1) B2 L2) ∨ (ok = false ∧ Z' B2 L2) := by
      rintro i vs B1 L1 hi hle hel ⟨M, rfl, hJ⟩ W0' R0 w1 hw1
      have hg1 := Holds.get (hw1 : Holds W0' B1 (ob l (.loop (rec' .ready none)) :: (dblk D :: M ++ [R0])) w1)
      have hy := run_yield (P := P) (args := vs.toArray) hg1 (by simp [rec', hlen i B1 vs hel])
      refine ⟨_, _, _, _, hy, ?_⟩
      let F1 : Asrt := stars [ob l (.loop (rec' .ready none)), dblk D, R0]
      let F2 : Asrt := stars [ob l (.loop (rec' .busy none)), dblk D, R0]
      have hb := hbody l i vs B1 M F1 F2 W0' hi hle hel hJ
      have hL : Holds W0' B1 (M ++ [F1]) w1 := by
        refine hw1.ent fun h hs => ?_
        obtain ⟨k1, k2, d, rfl, s1, s2⟩ := (stars_append (ob l (.loop (rec' .ready none)) :: dblk D :: M) [R0] h).1 hs
        obtain ⟨x1, x2, d1, rfl, t1, y1, y2, d2, rfl, t2, t3⟩ := s1
        obtain ⟨e1, e2⟩ := PH.cup_disj.1 d
        obtain ⟨e3, e4⟩ := PH.cup_disj.1 e2
        obtain ⟨e5, e6⟩ := PH.disj_cup.1 d1
        refine ⟨_, PH.le_refl _, (stars_append _ _ _).2 ⟨y2, x1.cup (y1.cup k2), PH.disj_cup.2 ⟨PH.disj_symm e6, PH.disj_cup.2 ⟨PH.disj_symm d2, e4⟩⟩, ?_, t3, (stars_one _ _).2 ⟨x1, y1.cup k2, PH.disj_cup.2 ⟨e5, e1⟩, rfl, t1, y1, k2, e3, rfl, t2, s2⟩⟩⟩
        have c1 : y1.cup y2 = y2.cup y1 := PH.cup_comm d2
        rw [c1, PH.cup_assoc, PH.cup_assoc, ← PH.cup_assoc x1 y2, PH.cup_comm e6, PH.cup_assoc]
      have hk : Knows n (penv ps.toList vs E) [] { tmps := (ps.zip vs.toArray).foldl (fun t (p, v) => t.setIfInBounds p v) a.tmps, defers := [] } := by
        have := knows_penv (n := n) (a := a) ps.toList vs a.tmps E (by rw [hlen i B1 vs hel]) (fun q hq => Nat.le_of_ble_eq_true (List.all_eq_true.1 hps q hq)) ⟨ha.size, rfl, ha.env⟩
        rw [← Array.foldl_toList]
        simpa using this
      refine roundIn_of_wpIn trivial ?_
      refine wpIn_mono (hb _ w1 hk hL) ?_
      rintro e a1 w2 q
      cases e with
      | normal =>
        obtain ⟨E2, B2, R2, hk2, hw2, hgo⟩ := q
        -- the round begins
        have hw3 : Holds W0' B2 (ob l (.loop (rec' .ready none)) :: (dblk D :: R0 :: R2)) w2 := by
          refine hw2.ent fun h hs => ?_
          obtain ⟨h1, h2, d, rfl, ⟨x1, x2, d1, rfl, t1, y1, y2, d2, rfl, t2, z1, z2, d3, rfl, t3, rfl⟩, s2⟩ := hs
          rw [PH.cup_emp] at d d1 d2 ⊢
          obtain ⟨e1, e2⟩ := PH.cup_disj.1 d
          obtain ⟨e3, e4⟩ := PH.cup_disj.1 e2
          obtain ⟨e5, e6⟩ := PH.disj_cup.1 d1
          exact ⟨_, PH.le_refl _, x1, _, PH.disj_cup.2 ⟨e5, PH.disj_cup.2 ⟨e6, e1⟩⟩, by rw [PH.cup_assoc, PH.cup_assoc], t1, y1, _, PH.disj_cup.2 ⟨d2, e3⟩, rfl, t2, z1, h2, e4, rfl, t3, s2⟩
        have hg3 := hw3.get
        refine ⟨_, run_beginRound hg3 rfl, ?_⟩
        have hlt : l < w2.heap.size := (Array.getElem?_eq_some_iff.1 hg3).1
        have base : ∀ {w w' : World}, Base W0' w → w'.os = w.os → w'.tape = w.tape → w'.output = w.output → w.heap.size ≤ w'.heap.size → Base W0' w' := fun h a b c d => ⟨a.trans h.os, b.trans h.tape, c.trans h.output, Nat.le_trans h.size d⟩
        have hw4 : Holds W0' B2 (ob l (.loop (rec' .busy none)) :: (dblk D :: R0 :: R2)) (w2.putObj l (.loop (rec' .busy none))) :=
          hw3.upd (base hw3.1 rfl rfl rfl (by simp)) (World.putObj_heap_same hlt) (fun c hc => World.putObj_heap_other hc)
        have hw5 : Holds W0' B2 (F2 :: R2) (w2.putObj l (.loop (rec' .busy none))) := by
          refine hw4.ent fun h hs => ?_
          obtain ⟨x1, x2, d1, rfl, t1, y1, y2, d2, rfl, t2, z1, z2, d3, rfl, t3, s2⟩ := hs
          obtain ⟨e1, e2⟩ := PH.disj_cup.1 d1
          obtain ⟨e3, e4⟩ := PH.disj_cup.1 e2
          obtain ⟨e5, e6⟩ := PH.disj_cup.1 d2
          refine ⟨_, PH.le_refl _, x1.cup (y1.cup z1), z2, PH.cup_disj.2 ⟨e4, PH.cup_disj.2 ⟨e6, d3⟩⟩, by rw [PH.cup_assoc, PH.cup_assoc], ⟨x1, y1.cup z1, PH.disj_cup.2 ⟨e1, e3⟩, rfl, t1, y1, z1, e5, rfl, t2, (stars_one _ _).2 t3⟩, s2⟩
        refine wpIn_mono (hgo a1 _ hk2 hw5) ?_
        -- the round ends
        have fin : ∀ (jump : Option Code) (B' : PH) (L' : List Asrt) (w6 : World), Holds W0' B' (L' ++ [F2]) w6 → ∃ v w', (Instr.endRound l jump).run P w6 = .ok v w' ∧ v = .bool jump.isNone ∧
            Holds W0' B' (ob l (.loop (rec' (if jump.isNone then .ready else .done) jump)) :: (dblk D :: L' ++ [R0])) w' := by
          intro jump B' L' w6 h6
          have h7 : Holds W0' B' (ob l (.loop (rec' .busy none)) :: (dblk D :: L' ++ [R0])) w6 := by
            refine h6.ent fun h hs => ?_
            obtain ⟨k1, k2, d, rfl, s1, s2⟩ := (stars_append _ _ _).1 hs
            obtain ⟨x1, x2, d1, rfl, t1, y1, y2, d2, rfl, t2, s3⟩ := (stars_one _ _).1 s2
            obtain ⟨e1, e2⟩ := PH.disj_cup.1 d
            obtain ⟨e3, e4⟩ := PH.disj_cup.1 e2
            obtain ⟨e5, e6⟩ := PH.disj_cup.1 d1
            refine ⟨_, PH.le_refl _, x1, y1.cup (k1.cup y2), PH.disj_cup.2 ⟨e5, PH.disj_cup.2 ⟨PH.disj_symm e1, e6⟩⟩, ?_, t1, (stars_append (dblk D :: L') [R0] _).2 ⟨y1.cup k1, y2, PH.cup_disj.2 ⟨d2, e4⟩, by rw [PH.cup_assoc], ⟨y1, k1, PH.disj_symm e3, rfl, t2, s1⟩, s3⟩⟩
            rw [← PH.cup_assoc, PH.cup_comm e1, PH.cup_assoc, ← PH.cup_assoc k1 y1, PH.cup_comm e3, PH.cup_assoc]
          have hg7 := h7.get
          have hlt7 : l < w6.heap.size := (Array.getElem?_eq_some_iff.1 hg7).1
          exact ⟨_, _, run_endRound jump hg7, rfl, h7.upd (base h7.1 rfl rfl rfl (by simp)) (World.putObj_heap_same hlt7) (fun c hc => World.putObj_heap_other hc)⟩
        rintro e3 a3 w6 q3
        cases e3 with
        | normal =>
          obtain ⟨B', L', hle', hJ', h6⟩ := q3
          obtain ⟨v, w', hr, rfl, h7⟩ := fin none B' L' w6 h6
          exact ⟨_, w', hr, true, B', _, rfl, hle', .inl ⟨rfl, L', rfl, hJ'⟩, h7⟩
        | ret =>
          obtain ⟨B', L', hle', hJ', h6⟩ := q3
          obtain ⟨v, w', hr, rfl, h7⟩ := fin (some .ret) B' L' w6 h6
          exact ⟨_, w', hr, false, B', _, rfl, hle', .inr ⟨rfl, .ret, L', rfl, hJ'⟩, h7⟩
        | exit id =>
          obtain ⟨B', L', hle', hJ', h6⟩ := q3
          obtain ⟨v, w', hr, rfl, h7⟩ := fin (some (.exit id)) B' L' w6 h6
          exact ⟨_, w', hr, false, B', _, rfl, hle', .inr ⟨rfl, .exit id, L', rfl, hJ'⟩, h7⟩
        | goto t => exact q3.elim
        | panic c => exact q3.elim
        | outgrown => exact q3.elim
      | exit id => exact q.elim
      | goto t => exact q.elim
      | ret => exact q.elim
      | panic c => exact q.elim
      | outgrown => exact q.elim
    have T := I l J' Z' B (PH.le_refl _) (fun i B1 B2 L1 hl ⟨M, e, h⟩ => ⟨M, e, hJm i B1 B2 M hl h⟩) (fun B1 B2 L1 hl ⟨c, M, e, h⟩ => ⟨c, M, e, hZm c B1 B2 M hl h⟩) hround (ob l (.loop (rec' .ready none)) :: dblk D :: L0) ⟨L0, rfl, h0⟩
    have hW2 : Holds W0 B ((Own ++ (ob l (.loop (rec' .ready none)) :: dblk D :: L0)) ++ [stars R]) W1 := by
      have h1 : Ent (ob l (.loop (rec' .ready none)) :: dblk D :: L) (ob l (.loop (rec' .ready none)) :: dblk D :: (Own ++ L0 ++ R)) := Ent.cons _ (Ent.cons _ p.out)
      refine ((hW1.ent h1).ent (Ent.perm ?_)).ent (Ent.lump _ _)
      exact ((List.perm_middle.trans (List.Perm.cons _ List.perm_middle)).append_right R).symm
    refine (T W0 (stars R) W1 hW2).mono ?_
    rintro e w3 ⟨v, B', L', rfl, hle, ⟨L1, rfl, hL1⟩, hw3⟩
    have back : ∀ (o : Obj) (M : List Asrt) (w : World), Holds W0 B' ((Own ++ (ob l o :: dblk D :: M)) ++ [stars R]) w → Holds W0 B' (ob l o :: (dblk D :: (Own ++ M) ++ R)) w := fun o M w h =>
      (h.ent (Ent.unlump _ _)).ent (Ent.perm ((List.perm_middle.trans (List.Perm.cons _ List.perm_middle)).append_right R))
    have base : ∀ {w w' : World}, Base W0 w → w'.os = w.os → w'.tape = w.tape → w'.output = w.output → w.heap.size ≤ w'.heap.size → Base W0 w' := fun h a b c d => ⟨a.trans h.os, b.trans h.tape, c.trans h.output, Nat.le_trans h.size d⟩
    rcases hL1 with ⟨M, rfl, hJ⟩ | ⟨c, M, rfl, hZ⟩
    · have h4 := back _ M w3 hw3
      have hg4 := h4.get
      have hlt : l < w3.heap.size := (Array.getElem?_eq_some_iff.1 hg4).1
      refine ⟨none, _, run_endLoop hg4 (by simp [rec']), ?_⟩
      have h5 := (h4.upd (w' := w3.putObj l (.loop { rec' .ready none with state := .exhausted })) (base h4.1 rfl rfl rfl (by simp)) (World.putObj_heap_same hlt) (fun c hc => World.putObj_heap_other hc)).ent (Ent.drop _ _)
      exact hdone D B' M hle hJ _ _ ⟨ha.size, by show dmark D :: a.defers = _; rw [ha.defers], ha.env⟩ h5
    · have h4 := back _ M w3 hw3
      have hg4 := h4.get
      have hlt : l < w3.heap.size := (Array.getElem?_eq_some_iff.1 hg4).1
      refine ⟨some c, _, run_endLoop hg4 (by simp [rec']), ?_⟩
      have h5 := (h4.upd (w' := w3.putObj l (.loop { rec' .done (some c) with state := .exhausted })) (base h4.1 rfl rfl rfl (by simp)) (World.putObj_heap_same hlt) (fun c hc => World.putObj_heap_other hc)).ent (Ent.drop _ _)
      exact hstop D c B' M hle hZ _ _ ⟨ha.size, by show dmark D :: a.defers = _; rw [ha.defers], ha.env⟩ h5
end
end Sc
