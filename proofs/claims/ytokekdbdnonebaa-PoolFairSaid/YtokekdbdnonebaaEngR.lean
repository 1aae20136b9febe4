/- Iterators that share something with the loop's body. -/
import Derived.Test.YtokekdbdnonebaaEngQ
namespace Sc
open Go
section
variable {P : Program} {ro : Option Nat} {Q : Exit → Act → World → Prop} {W0 : World} {n : Nat} {K : Act → World → Prop} {E : Env} {ds : List Deferred} {B : PH} {L : List Asrt}
/-- An iterator's promise, over states: in s it may hand out vs, and lend O; it wants O back as long as yield says true, and something that is fit where it says false. -/
def IterG (P : Program) (gf : FuncId) (ca : List Value) (B : PH) {σ : Type} (s0 : σ) (Own0 : List Asrt) (ask : σ → PH → List Value → List Asrt → σ → Prop) (back : List Asrt → List Asrt → Prop) (fin : σ → PH → List Asrt → Prop) : Prop :=
  ∀ (l : Nat) (J : σ → PH → List Asrt → Prop) (Z : List Asrt → PH → List Asrt → Prop) (B0 : PH), B.le B0 →
    (∀ s B1 B2 L, B1.le B2 → J s B1 L → J s B2 L) → (∀ O B1 B2 L, B1.le B2 → Z O B1 L → Z O B2 L) →
    (∀ s vs O s' B1 L1, B0.le B1 → ask s B1 vs O s' → J s B1 L1 → YTri P l vs B1 (O ++ L1) fun ok B2 L2 => (ok = true ∧ ∃ L3, L2 = O ++ L3 ∧ J s' B2 L3) ∨ (ok = false ∧ ∃ O2 L3, L2 = O2 ++ L3 ∧ back O O2 ∧ Z O2 B2 L3)) →
    ∀ L0, J s0 B0 L0 → Tri P gf (.func (.yield l) #[] #[] :: ca) B0 (Own0 ++ L0) fun _ B' L' => ∃ O L1, L' = O ++ L1 ∧ ((∃ s, fin s B' O ∧ J s B' L1) ∨ Z O B' L1)
theorem k_rangeG {σ : Type} {s0 : σ} {Own0 : List Asrt} {ask : σ → PH → List Value → List Asrt → σ → Prop} {back : List Asrt → List Asrt → Prop} {fin' : σ → PH → List Asrt → Prop} {g : Operand} {ps : Array Tmp} {assign body : Code} {gf : FuncId} {ca : List Value} {R : List Asrt} [hf : FnC P gf] (hg : ev E g = some (.func (.func gf) #[] ca.toArray))
    (I : IterG P gf ca B s0 Own0 ask back fin') (hps : (ps.toList.all fun p => Nat.blt p n) = true) (J : σ → PH → List Asrt → Prop) (Z : Code → List Asrt → PH → List Asrt → Prop) (hJm : ∀ s B1 B2 L, B1.le B2 → J s B1 L → J s B2 L) (hZm : ∀ c O B1 B2 L, B1.le B2 → Z c O B1 L → Z c O B2 L) (L0 : List Asrt) [p : Part (Own0 ++ L0) L R] (h0 : J s0 B L0)
    (hlen : ∀ s B1 vs O s', ask s B1 vs O s' → vs.length = ps.toList.length)
    (hbody : ∀ l s vs O s' B1 L1 F1 F2 (W0 : World), B.le B1 → ask s B1 vs O s' → J s B1 L1 → KGo W0 n (wp P (some l) assign (Exit.then (Sw W0 n F1 F2 (wp P (some l) body (RQ W0 F2 B1 (fun B' L' => ∃ L3, L' = O ++ L3 ∧ J s' B' L3) (fun c B' L' => ∃ O2 L3, L' = O2 ++ L3 ∧ back O O2 ∧ Z c O2 B' L3)))) (fun _ _ _ => False))) (penv ps.toList vs E) [] B1 ((O ++ L1) ++ [F1]))
    (hdone : ∀ D s O B' L1, B.le B' → fin' s B' O → J s B' L1 → KGo W0 n (Q .normal) E (dmark D :: ds) B' (dblk D :: (O ++ L1) ++ R))
    (hstop : ∀ D c O B' L1, B.le B' → Z c O B' L1 → KGo W0 n (wp P none c Q) E (dmark D :: ds) B' (dblk D :: (O ++ L1) ++ R)) : KGo W0 n (wp P none (.rangeFunc g ps assign body) Q) E ds B L := by
  intro a w ha hw
  refine wpIn_rangeFunc fun fn _ => ?_
  let D := w.heap.size
  let rec' : LoopState → Option Code → Loop := fun st pe => { state := st, pending := pe, fn, tmps := a.tmps, params := ps, assign, body, defers := D }
  let W1 : World := { { w with heap := w.heap.push (.deferred (some [])) } with heap := (w.heap.push (.deferred (some []))).push (.loop (rec' .ready none)) }
  let l := D + 1
  have hW1 : Holds W0 B (ob l (.loop (rec' .ready none)) :: dblk D :: L) W1 := by
    have h1 := hw.alloc (.deferred (some []))
    have h2 := h1.alloc (.loop (rec' .ready none))
    have e : (w.heap.push (.deferred (some []))).size = l := by simp [l, D]
    simp only [e] at h2
    exact h2
  have hent := run_enterLoop_outer (P := P) (w := w) fn a.tmps ps assign body
  refine ⟨l, [dmark D], W1, { target := .fn (.func gf) ca.toArray, args := #[.func (.yield l) #[] #[]] }, W1, gf, (.func (.yield l) #[] #[] :: ca).toArray, W1, ?_, ?_, fun f' _ => trivial, ?_, fun h => (by cases h), ?_⟩
  · exact hent
  · simp only [resolve, rangeCall, ha.eval hg, Deferred.ofValue, List.map_toArray, List.map_cons, List.map_nil]
    simp [Act.eval]
  · simp only [invoke]
    rw [show (#[.func (.yield l) #[] #[]] ++ ca.toArray : Array Value) = (.func (.yield l) #[] #[] :: ca).toArray by rw [← Array.toList_inj]; simp, hf.run]
  · -- the iterator, at the loop's own invariant
    let J' : σ → PH → List Asrt → Prop := fun i B1 L1 => ∃ M, L1 = ob l (.loop (rec' .ready none)) :: dblk D :: M ∧ J i B1 M
    let Z' : List Asrt → PH → List Asrt → Prop := fun O B1 L1 => ∃ c M, L1 = ob l (.loop (rec' .done (some c))) :: dblk D :: M ∧ Z c O B1 M
    have hround : ∀ s vs O s' B1 L1, B.le B1 → ask s B1 vs O s' → J' s B1 L1 → YTri P l vs B1 (O ++ L1) fun ok B2 L2 => (ok = true ∧ ∃ L3, L2 = O ++ L3 ∧ J' s' B2 L3) ∨ (ok = false ∧ ∃ O2 L3, L2 = O2 ++ L3 ∧ back O O2 ∧ Z' O2 B2 L3) := by
      rintro s vs O s' B1 L1 hle hel ⟨M0, rfl, hJ⟩ W0' R0 w1 hw1'
      obtain ⟨M, hM⟩ : ∃ M, M = O ++ M0 := ⟨_, rfl⟩
      have hw1 : Holds W0' B1 ((ob l (.loop (rec' .ready none)) :: dblk D :: M) ++ [R0]) w1 := by
        rw [hM]
        exact hw1'.ent (Ent.perm ((List.perm_middle.trans (List.Perm.cons _ List.perm_middle)).append_right _))
      have hg1 := Holds.get (hw1 : Holds W0' B1 (ob l (.loop (rec' .ready none)) :: (dblk D :: M ++ [R0])) w1)
      have hy := run_yield (P := P) (args := vs.toArray) hg1 (by simp [rec', hlen s B1 vs O s' hel])
      refine ⟨_, _, _, _, hy, ?_⟩
      let F1 : Asrt := stars [ob l (.loop (rec' .ready none)), dblk D, R0]
      let F2 : Asrt := stars [ob l (.loop (rec' .busy none)), dblk D, R0]
      have hb := hbody l s vs O s' B1 M0 F1 F2 W0' hle hel hJ
      rw [← hM] at hb
      have hL : Holds W0' B1 (M ++ [F1]) w1 := by
        refine hw1.ent fun h hs => ?_
        obtain ⟨k1, k2, d, rfl, s1, s2⟩ := (stars_append (ob l (.loop (rec' .ready none)) :: dblk D :: M) [R0] h).1 hs
        obtain ⟨x1, x2, d1, rfl, t1, y1, y2, d2, rfl, t2, t3⟩ := s1
        obtain ⟨e1, e2⟩ := PH.cup_disj.1 d
        obtain ⟨e3, e4⟩ := PH.cup_disj.1 e2
        obtain ⟨e5, e6⟩ := PH.disj_cup.1 d1
        refine ⟨_, PH.le_refl _, (stars_append _ _ _).2 ⟨y2, x1.cup (y1.cup k2), PH.disj_cup.2 ⟨PH.disj_symm e6, PH.disj_cup.2 ⟨PH.disj_symm d2, e4⟩⟩, ?_, t3, (stars_one _ _).2 ⟨x1, y1.cup k2, PH.disj_cup.2 ⟨e5, e1⟩, rfl, t1, y1, k2, e3, rfl, t2, s2⟩⟩⟩
        have c1 : y1.cup y2 = y2.cup y1 := PH.cup_comm d2
        rw [c1, PH.cup_assoc, PH.cup_assoc, ← PH.cup_assoc x1 y2, PH.cup_comm e6, PH.cup_assoc]
      have hk : Knows n (penv ps.toList vs E) [] { tmps := (ps.zip vs.toArray).foldl (fun t (p, v) => t.setIfInBounds p v) a.tmps, defers := [] } := by
        have := knows_penv (n := n) (a := a) ps.toList vs a.tmps E (by rw [hlen s B1 vs O s' hel]) (fun q hq => Nat.le_of_ble_eq_true (List.all_eq_true.1 hps q hq)) ⟨ha.size, rfl, ha.env⟩
        rw [← Array.foldl_toList]
        simpa using this
      refine roundIn_of_wpIn trivial ?_
      refine wpIn_mono (hb _ w1 hk hL) ?_
      rintro e a1 w2 q
      cases e with
      | normal =>
        obtain ⟨E2, B2, R2, hk2, hw2, hgo⟩ := q
        -- the round begins
        have hw3 : Holds W0' B2 (ob l (.loop (rec' .ready none)) :: (dblk D :: R0 :: R2)) w2 := by
          refine hw2.ent fun h hs => ?_
          obtain ⟨h1, h2, d, rfl, ⟨x1, x2, d1, rfl, t1, y1, y2, d2, rfl, t2, z1, z2, d3, rfl, t3, rfl⟩, s2⟩ := hs
          rw [PH.cup_emp] at d d1 d2 ⊢
          obtain ⟨e1, e2⟩ := PH.cup_disj.1 d
          obtain ⟨e3, e4⟩ := PH.cup_disj.1 e2
          obtain ⟨e5, e6⟩ := PH.disj_cup.1 d1
          exact ⟨_, PH.le_refl _, x1, _, PH.disj_cup.2 ⟨e5, PH.disj_cup.2 ⟨e6, e1⟩⟩, by rw [PH.cup_assoc, PH.cup_assoc], t1, y1, _, PH.disj_cup.2 ⟨d2, e3⟩, rfl, t2, z1, h2, e4, rfl, t3, s2⟩
        have hg3 := hw3.get
        refine ⟨_, run_beginRound hg3 rfl, ?_⟩
        have hlt : l < w2.heap.size := (Array.getElem?_eq_some_iff.1 hg3).1
        have base : ∀ {w w' : World}, Base W0' w → w'.os = w.os → w'.tape = w.tape → w'.output = w.output → w.heap.size ≤ w'.heap.size → Base W0' w' := fun h a b c d => ⟨a.trans h.os, b.trans h.tape, c.trans h.output, Nat.le_trans h.size d⟩
        have hw4 : Holds W0' B2 (ob l (.loop (rec' .busy none)) :: (dblk D :: R0 :: R2)) (w2.putObj l (.loop (rec' .busy none))) :=
          hw3.upd (base hw3.1 rfl rfl rfl (by simp)) (World.putObj_heap_same hlt) (fun c hc => World.putObj_heap_other hc)
        have hw5 : Holds W0' B2 (F2 :: R2) (w2.putObj l (.loop (rec' .busy none))) := by
          refine hw4.ent fun h hs => ?_
          obtain ⟨x1, x2, d1, rfl, t1, y1, y2, d2, rfl, t2, z1, z2, d3, rfl, t3, s2⟩ := hs
          obtain ⟨e1, e2⟩ := PH.disj_cup.1 d1
          obtain ⟨e3, e4⟩ := PH.disj_cup.1 e2
          obtain ⟨e5, e6⟩ := PH.disj_cup.1 d2
          refine ⟨_, PH.le_refl _, x1.cup (y1.cup z1), z2, PH.cup_disj.2 ⟨e4, PH.cup_disj.2 ⟨e6, d3⟩⟩, by rw [PH.cup_assoc, PH.cup_assoc], ⟨x1, y1.cup z1, PH.disj_cup.2 ⟨e1, e3⟩, rfl, t1, y1, z1, e5, rfl, t2, (stars_one _ _).2 t3⟩, s2⟩
        refine wpIn_mono (hgo a1 _ hk2 hw5) ?_
        -- the round ends
        have fin : ∀ (jump : Option Code) (B' : PH) (L' : List Asrt) (w6 : World), Holds W0' B' (L' ++ [F2]) w6 → ∃ v w', (Instr.endRound l jump).run P w6 = .ok v w' ∧ v = .bool jump.isNone ∧
            Holds W0' B' (ob l (.loop (rec' (if jump.isNone then .ready else .done) jump)) :: (dblk D :: L' ++ [R0])) w' := by
          intro jump B' L' w6 h6
          have h7 : Holds W0' B' (ob l (.loop (rec' .busy none)) :: (dblk D :: L' ++ [R0])) w6 := by
            refine h6.ent fun h hs => ?_
            obtain ⟨k1, k2, d, rfl, s1, s2⟩ := (stars_append _ _ _).1 hs
            obtain ⟨x1, x2, d1, rfl, t1, y1, y2, d2, rfl, t2, s3⟩ := (stars_one _ _).1 s2
            obtain ⟨e1, e2⟩ := PH.disj_cup.1 d
            obtain ⟨e3, e4⟩ := PH.disj_cup.1 e2
            obtain ⟨e5, e6⟩ := PH.disj_cup.1 d1
            refine ⟨_, PH.le_refl _, x1, y1.cup (k1.cup y2), PH.disj_cup.2 ⟨e5, PH.disj_cup.2 ⟨PH.disj_symm e1, e6⟩⟩, ?_, t1, (stars_append (dblk D :: L') [R0] _).2 ⟨y1.cup k1, y2, PH.cup_disj.2 ⟨d2, e4⟩, by rw [PH.cup_assoc], ⟨y1, k1, PH.disj_symm e3, rfl, t2, s1⟩, s3⟩⟩
            rw [← PH.cup_assoc, PH.cup_comm e1, PH.cup_assoc, ← PH.cup_assoc k1 y1, PH.cup_comm e3, PH.cup_assoc]
          have hg7 := h7.get
          have hlt7 : l < w6.heap.size := (Array.getElem?_eq_some_iff.1 hg7).1
          exact ⟨_, _, run_endRound jump hg7, rfl, h7.upd (base h7.1 rfl rfl rfl (by simp)) (World.putObj_heap_same hlt7) (fun c hc => World.putObj_heap_other hc)⟩
        rintro e3 a3 w6 q3
        cases e3 with
        | normal =>
          obtain ⟨B', L', hle', ⟨L3, rfl, hJ'⟩, h6⟩ := q3
          obtain ⟨v, w', hr, rfl, h7⟩ := fin none B' _ w6 h6
          exact ⟨_, w', hr, true, B', O ++ (ob l (.loop (rec' .ready none)) :: dblk D :: L3), rfl, hle', .inl ⟨rfl, _, rfl, L3, rfl, hJ'⟩, h7.ent (Ent.perm ((List.perm_middle.trans (List.Perm.cons _ List.perm_middle)).append_right _).symm)⟩
        | ret =>
          obtain ⟨B', L', hle', ⟨O2, L3, rfl, hbk, hJ'⟩, h6⟩ := q3
          obtain ⟨v, w', hr, rfl, h7⟩ := fin (some .ret) B' _ w6 h6
          exact ⟨_, w', hr, false, B', O2 ++ (ob l (.loop (rec' .done (some .ret))) :: dblk D :: L3), rfl, hle', .inr ⟨rfl, O2, _, rfl, hbk, .ret, L3, rfl, hJ'⟩, h7.ent (Ent.perm ((List.perm_middle.trans (List.Perm.cons _ List.perm_middle)).append_right _).symm)⟩
        | exit id =>
          obtain ⟨B', L', hle', ⟨O2, L3, rfl, hbk, hJ'⟩, h6⟩ := q3
          obtain ⟨v, w', hr, rfl, h7⟩ := fin (some (.exit id)) B' _ w6 h6
          exact ⟨_, w', hr, false, B', O2 ++ (ob l (.loop (rec' .done (some (.exit id)))) :: dblk D :: L3), rfl, hle', .inr ⟨rfl, O2, _, rfl, hbk, (.exit id), L3, rfl, hJ'⟩, h7.ent (Ent.perm ((List.perm_middle.trans (List.Perm.cons _ List.perm_middle)).append_right _).symm)⟩
        | goto t => exact q3.elim
        | panic c => exact q3.elim
        | outgrown => exact q3.elim
      | exit id => exact q.elim
      | goto t => exact q.elim
      | ret => exact q.elim
      | panic c => exact q.elim
      | outgrown => exact q.elim
    have T := I l J' Z' B (PH.le_refl _) (fun i B1 B2 L1 hl ⟨M, e, h⟩ => ⟨M, e, hJm i B1 B2 M hl h⟩) (fun O B1 B2 L1 hl ⟨c, M, e, h⟩ => ⟨c, M, e, hZm c O B1 B2 M hl h⟩) hround (ob l (.loop (rec' .ready none)) :: dblk D :: L0) ⟨L0, rfl, h0⟩
    have hW2 : Holds W0 B ((Own0 ++ (ob l (.loop (rec' .ready none)) :: dblk D :: L0)) ++ [stars R]) W1 := by
      have h1 : Ent (ob l (.loop (rec' .ready none)) :: dblk D :: L) (ob l (.loop (rec' .ready none)) :: dblk D :: (Own0 ++ L0 ++ R)) := Ent.cons _ (Ent.cons _ p.out)
      refine ((hW1.ent h1).ent (Ent.perm ?_)).ent (Ent.lump _ _)
      exact ((List.perm_middle.trans (List.Perm.cons _ List.perm_middle)).append_right R).symm
    refine (T W0 (stars R) W1 hW2).mono ?_
    rintro e w3 ⟨v, B', L', rfl, hle, ⟨O1, L1, rfl, hL1⟩, hw3⟩
    have back : ∀ (o : Obj) (M : List Asrt) (w : World), Holds W0 B' ((O1 ++ (ob l o :: dblk D :: M)) ++ [stars R]) w → Holds W0 B' (ob l o :: (dblk D :: (O1 ++ M) ++ R)) w := fun o M w h =>
      (h.ent (Ent.unlump _ _)).ent (Ent.perm ((List.perm_middle.trans (List.Perm.cons _ List.perm_middle)).append_right R))
    have base : ∀ {w w' : World}, Base W0 w → w'.os = w.os → w'.tape = w.tape → w'.output = w.output → w.heap.size ≤ w'.heap.size → Base W0 w' := fun h a b c d => ⟨a.trans h.os, b.trans h.tape, c.trans h.output, Nat.le_trans h.size d⟩
    rcases hL1 with ⟨s, hfin, M, rfl, hJ⟩ | ⟨c, M, rfl, hZ⟩
    · have h4 := back _ M w3 hw3
      have hg4 := h4.get
      have hlt : l < w3.heap.size := (Array.getElem?_eq_some_iff.1 hg4).1
      refine ⟨none, _, run_endLoop hg4 (by simp [rec']), ?_⟩
      have h5 := (h4.upd (w' := w3.putObj l (.loop { rec' .ready none with state := .exhausted })) (base h4.1 rfl rfl rfl (by simp)) (World.putObj_heap_same hlt) (fun c hc => World.putObj_heap_other hc)).ent (Ent.drop _ _)
      exact hdone D s O1 B' M hle hfin hJ _ _ ⟨ha.size, by show dmark D :: a.defers = _; rw [ha.defers], ha.env⟩ h5
    · have h4 := back _ M w3 hw3
      have hg4 := h4.get
      have hlt : l < w3.heap.size := (Array.getElem?_eq_some_iff.1 hg4).1
      refine ⟨some c, _, run_endLoop hg4 (by simp [rec']), ?_⟩
      have h5 := (h4.upd (w' := w3.putObj l (.loop { rec' .done (some c) with state := .exhausted })) (base h4.1 rfl rfl rfl (by simp)) (World.putObj_heap_same hlt) (fun c hc => World.putObj_heap_other hc)).ent (Ent.drop _ _)
      exact hstop D c O1 B' M hle hZ _ _ ⟨ha.size, by show dmark D :: a.defers = _; rw [ha.defers], ha.env⟩ h5
/-- The same, with what the loop keeps as one lump. -/
def IterGA (P : Program) (gf : FuncId) (ca : List Value) (B : PH) {σ : Type} (s0 : σ) (Own0 : List Asrt) (ask : σ → PH → List Value → List Asrt → σ → Prop) (back : List Asrt → List Asrt → Prop) (fin : σ → PH → List Asrt → Prop) : Prop :=
  ∀ (l : Nat) (J : σ → PH → Asrt → Prop) (Z : List Asrt → PH → Asrt → Prop) (B0 : PH), B.le B0 →
    (∀ s B1 B2 A, B1.le B2 → J s B1 A → J s B2 A) → (∀ O B1 B2 A, B1.le B2 → Z O B1 A → Z O B2 A) →
    (∀ s vs O s' B1 A, B0.le B1 → ask s B1 vs O s' → J s B1 A → YTri P l vs B1 (O ++ [A]) fun ok B2 L2 => (ok = true ∧ ∃ A2, L2 = O ++ [A2] ∧ J s' B2 A2) ∨ (ok = false ∧ ∃ O2 A2, L2 = O2 ++ [A2] ∧ back O O2 ∧ Z O2 B2 A2)) →
    ∀ A0, J s0 B0 A0 → Tri P gf (.func (.yield l) #[] #[] :: ca) B0 (Own0 ++ [A0]) fun _ B' L' => ∃ O A1, L' = O ++ [A1] ∧ ((∃ s, fin s B' O ∧ J s B' A1) ∨ Z O B' A1)
theorem Ent.lumpM (X M Y : List Asrt) : Ent ((X ++ M) ++ Y) ((X ++ [stars M]) ++ Y) := by
  rw [List.append_assoc, List.append_assoc]
  exact Ent.app X (Ent.lumpL M Y)
theorem Ent.unlumpM (X M Y : List Asrt) : Ent ((X ++ [stars M]) ++ Y) ((X ++ M) ++ Y) := by
  rw [List.append_assoc, List.append_assoc]
  exact Ent.app X (Ent.unlumpL M Y)
theorem IterG.ofA {gf : FuncId} {ca : List Value} {σ : Type} {s0 : σ} {Own0 : List Asrt} {ask : σ → PH → List Value → List Asrt → σ → Prop} {back : List Asrt → List Asrt → Prop} {fin : σ → PH → List Asrt → Prop} (h : IterGA P gf ca B s0 Own0 ask back fin) : IterG P gf ca B s0 Own0 ask back fin := by
  intro l J Z B0 h0 hJm hZm hy L0 hJ
  have := h l (fun i B A => ∃ L, A = stars L ∧ J i B L) (fun O B A => ∃ L, A = stars L ∧ Z O B L) B0 h0 (fun i B1 B2 A hl ⟨M, e, h⟩ => ⟨M, e, hJm i B1 B2 M hl h⟩) (fun O B1 B2 A hl ⟨M, e, h⟩ => ⟨M, e, hZm O B1 B2 M hl h⟩) ?_ (stars L0) ⟨L0, rfl, hJ⟩
  · intro W0 R w hw
    refine (this W0 R w (hw.ent (Ent.lumpM Own0 L0 [R]))).mono ?_
    rintro e w' ⟨v, B', L', h1, h2, ⟨O, A1, rfl, h3⟩, h4⟩
    have key : ∀ L1, A1 = stars L1 → Holds W0 B' ((O ++ L1) ++ [R]) w' := fun L1 e => by
      subst e; exact h4.ent (Ent.unlumpM O L1 [R])
    rcases h3 with ⟨s, hf, L1, rfl, h5⟩ | ⟨L1, rfl, h5⟩
    · exact ⟨v, B', O ++ L1, h1, h2, ⟨O, L1, rfl, .inl ⟨s, hf, h5⟩⟩, key L1 rfl⟩
    · exact ⟨v, B', O ++ L1, h1, h2, ⟨O, L1, rfl, .inr h5⟩, key L1 rfl⟩
  · rintro s vs O s' B1 A hB hel ⟨L1, rfl, hJ1⟩ W0 R w hw
    obtain ⟨fn, tmps, assign, body, hr, hd⟩ := hy s vs O s' B1 L1 hB hel hJ1 W0 R w (hw.ent (Ent.unlumpM O L1 [R]))
    refine ⟨fn, tmps, assign, body, hr, hd.mono ?_⟩
    rintro e w' ⟨ok, B', L', h1, h2, h3, h4⟩
    rcases h3 with ⟨h5, L3, rfl, h6⟩ | ⟨h5, O2, L3, rfl, h6, h7⟩
    · exact ⟨ok, B', O ++ [stars L3], h1, h2, .inl ⟨h5, stars L3, rfl, L3, rfl, h6⟩, h4.ent (Ent.lumpM O L3 [R])⟩
    · exact ⟨ok, B', O2 ++ [stars L3], h1, h2, .inr ⟨h5, O2, stars L3, rfl, h6, L3, rfl, h7⟩, h4.ent (Ent.lumpM O2 L3 [R])⟩
end
end Sc
