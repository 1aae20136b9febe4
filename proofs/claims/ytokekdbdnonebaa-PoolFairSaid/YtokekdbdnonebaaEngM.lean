/- Rows that are written, slices that are built, copies. -/
import Derived.Test.YtokekdbdnonebaaEngL
namespace Sc
open Go

/-- Another row in a row's place. -/
def srset : List Seg → Nat → List Value → Option (List Seg)
  | [], _, _ => none
  | .one v :: r, k, cs => bif Nat.beq k 0 then none else match srset r (k - 1) cs with
    | some x => some (.one v :: x)
    | none => none
  | .row n ds :: r, k, cs => bif Nat.beq k 0 then some (.row n cs :: r) else bif Nat.ble n k then (match srset r (k - n) cs with
    | some x => some (.row n ds :: x)
    | none => none) else none
theorem srset_ok {s : List Seg} : ∀ {k m : Nat} {cs ds : List Value} {s' : List Seg}, oks s → srow s k = some (m, cs) → ds.length = m → (∀ v ∈ ds, v.oneCell' = true) → srset s k ds = some s' →
    flat s' = (flat s).take k ++ ds ++ (flat s).drop (k + m) ∧ oks s' := by
  induction s with
  | nil => intro k m cs ds s' _ h; cases h
  | cons y s ih =>
    intro k m cs ds s' ho h hl h1 hs
    cases y with
    | one u =>
      simp only [srow] at h
      simp only [srset] at hs
      cases k with
      | zero => simp at h
      | succ k =>
        rw [show Nat.beq (k + 1) 0 = false from rfl] at h hs
        simp only [cond_false, Nat.add_sub_cancel] at h hs
        split at hs
        · rename_i x hx
          cases hs
          obtain ⟨e1, e2⟩ := ih ho.2 h hl h1 hx
          refine ⟨?_, ho.1, e2⟩
          simp only [flat, Seg.cells, e1, List.cons_append, List.nil_append, List.take_succ_cons]
          rw [show k + 1 + m = (k + m) + 1 by omega, List.drop_succ_cons]
        · cases hs
    | row n' cs' =>
      simp only [srow] at h
      simp only [srset] at hs
      cases k with
      | zero =>
        simp at h hs
        obtain ⟨rfl, rfl⟩ := h
        subst hs
        refine ⟨?_, ⟨hl, h1⟩, ho.2⟩
        have hc := ho.1.1
        simp only [flat, Seg.cells, List.take_zero, List.nil_append, Nat.zero_add]
        rw [List.drop_append, List.drop_of_length_le (by omega), hc]
        simp
      | succ k =>
        rw [show Nat.beq (k + 1) 0 = false from rfl] at h hs
        simp only [cond_false] at h hs
        cases hb : Nat.ble n' (k + 1) with
        | false => rw [hb] at h; cases h
        | true =>
          rw [hb] at h hs
          simp only [cond_true] at h hs
          have hk := Nat.le_of_ble_eq_true hb
          split at hs
          · rename_i x hx
            cases hs
            obtain ⟨e1, e2⟩ := ih ho.2 h hl h1 hx
            refine ⟨?_, ho.1, e2⟩
            have hc := ho.1.1
            simp only [flat, Seg.cells, e1]
            rw [List.take_append, List.take_of_length_le (l := cs') (by omega), hc, List.drop_append, List.drop_of_length_le (l := cs') (by omega), List.nil_append, hc,
              show k + 1 + m - n' = k + 1 - n' + m by omega]
            simp [List.append_assoc]
          · cases hs

section
variable {P : Program} {ro : Option Nat} {Q : Exit → Act → World → Prop} {W0 : World} {n : Nat} {K : Act → World → Prop} {E : Env} {ds : List Deferred} {B : PH} {L : List Asrt}

/-- Into a row, at whatever place. -/
theorem o_str {t tb b o o0 m m' d : Nat} {s s' s'' y : List Seg} {cs : List Value} {R : List Asrt} {x z : Operand} {ty : TypeId} {pos : String} {af : Array Edge} {g : Option (Nat × Bool)} {v : Value} [hs : TyS P t m'] [p : PickB b L tb s R] [hv : SegsOf v y] (hx : ev E x = some (.pointer (some ⟨b, o, none⟩))) (hz : ev E z = some v)
    (hr : srow s o0 = some (m, cs)) (ho : o = o0 + d) (hm : swidth y = m') (hd : d + m' ≤ m) (hp : srset s o0 (cs.take d ++ flat y ++ cs.drop (d + m')) = some s') [ln : LNorm s' s''] (h : KGo W0 n K E ds B (bk b tb s'' :: R)) : KGo W0 n (wo P ro ⟨none, .store t x z, ty, pos, af, g⟩ K Q) E ds B L := fun a w ha hw => by
  rw [← ln.eq] at h
  have hw1 := hw.ent p.out
  obtain ⟨hok, hw2⟩ := hw1.bk
  obtain ⟨h3, h3', h4, h5⟩ := srow_ok hok hr
  have hfl : (flat y).length = m' := by rw [← swidth_eq hv.ok]; exact hm
  have hlen : (cs.take d ++ flat y ++ cs.drop (d + m')).length = m := by simp [hfl]; omega
  obtain ⟨e1, e2⟩ := srset_ok hok hr hlen (fun u hu => by
    simp only [List.mem_append] at hu
    rcases hu with (hu | hu) | hu
    · exact h3' u (List.mem_of_mem_take hu)
    · exact oks_mem hv.ok u hu
    · exact h3' u (List.mem_of_mem_drop hu)) hp
  obtain ⟨w', hrr, hh⟩ := run_put (P := P) (o := o) (flat y) 0 _ w hw2 (by rw [hfl, ho]; omega) (oks_mem hv.ok)
  refine op_skip (w' := w') ?_ ?_
  · have hsz : v.cells.size = m' := by rw [hv.cells]; simp [hfl]
    simp only [execOp, ha.eval hx, ha.eval hz, Sem.run_bind, Instr.storeAt, Instr.sureAddr, Sem.run_pure, Result.andThen_ok, storeVar, hs.run, hsz, ne_eq, not_true_eq_false, if_false]
    rw [hv.cells]
    simp only [hrr, Result.andThen_ok]
  · refine h a w' ha ?_
    have e3 : flat s' = (flat s).take (o + 0) ++ flat y ++ (flat s).drop (o + 0 + (flat y).length) := by
      rw [e1, ← h4, hfl, ho, Nat.add_zero]
      have e4 : ((flat s).drop o0).take m = ((flat s).drop o0).take m := rfl
      have e5 : (flat s).take (o0 + d) = (flat s).take o0 ++ (((flat s).drop o0).take m).take d := by
        rw [List.take_take, Nat.min_eq_left (by omega), List.take_add]
      have e6 : (flat s).drop (o0 + d + m') = (((flat s).drop o0).take m).drop (d + m') ++ (flat s).drop (o0 + m) := by
        rw [List.drop_take, List.drop_drop]
        have : (flat s).drop (o0 + m) = ((flat s).drop (o0 + (d + m'))).drop (m - (d + m')) := by rw [List.drop_drop]; congr 1; omega
        rw [this, List.take_append_drop]; congr 1; omega
      rw [e5, e6]; simp [List.append_assoc]
    have : Holds W0 B (ob b (.cells (flat s').toArray tb (0, 0)) :: R) w' := by rw [e3]; exact hh
    exact this.ent (Ent.bk e2 R)
/-- The same cells, otherwise cut. -/
theorem k_reseg (b : Nat) {tb : TypeId} {s : List Seg} {R : List Asrt} (s' : List Seg) [p : PickB b L tb s R] (hf : flat s = flat s') [ho : OkS s'] (h : KGo W0 n K E ds B (bk b tb s' :: R)) : KGo W0 n K E ds B L := fun a w ha hw => by
  obtain ⟨_, hw2⟩ := (hw.ent p.out).bk
  rw [hf] at hw2
  exact h a w ha (hw2.ent (Ent.bk ho.out R))
/-- A block of which nothing else is said. -/
theorem k_bkow (b : Nat) {e : TypeId} {s : List Seg} {R : List Asrt} (m : Nat) {sz : Nat} [p : PickB b L e s R] (hm : Nat.beq (swidth s) (m * sz) = true) (h : KGo W0 n K E ds B (ow e sz (.slice (some ⟨b, 0, none⟩) m m) m (flat s) :: R)) : KGo W0 n K E ds B L := fun a w ha hw => by
  obtain ⟨ho, hw2⟩ := (hw.ent p.out).bk
  have hl : (flat s).length = m * sz := by rw [← swidth_eq ho]; exact Nat.eq_of_beq_eq_true hm
  have hw3 : Holds W0 B (ob b (.cells (flat s ++ []).toArray e (0, 0)) :: R) w := by simpa using hw2
  exact h a w ha (hw3.ent (Ent.ow_row hl (by simpa using hl) (Nat.le_refl _) (by simpa using oks_mem ho) R))

/-! ### Slices that are built -/
theorem rep_get {l : List Value} : ∀ {m j : Nat}, j < m * l.length → (List.replicate m l).flatten[j]? = l[j % l.length]?
  | 0, j, h => by simp at h
  | m + 1, j, h => by
    rw [List.replicate_succ, List.flatten_cons]
    by_cases hj : j < l.length
    · rw [List.getElem?_append_left hj, Nat.mod_eq_of_lt hj]
    · rw [List.getElem?_append_right (by omega), rep_get (m := m) (by rw [Nat.add_mul] at h; omega)]
      congr 1
      rw [← Nat.mod_eq_sub_mod (by omega)]
theorem zeros_eq (m : Nat) (l : List Value) : (Array.range (m * l.length)).map (fun (i : Nat) => l.toArray[i % l.toArray.size]!) = ((List.replicate m l).flatten).toArray := by
  apply Array.ext
  · simp
  · intro i h1 h2
    simp only [Array.size_map, Array.size_range] at h1
    have hl : 0 < l.length := by
      cases l with
      | nil => simp at h1
      | cons => simp
    have hi : i % l.length < l.length := Nat.mod_lt _ hl
    have := rep_get (l := l) (m := m) h1
    rw [List.getElem?_eq_getElem (by simpa using h2), List.getElem?_eq_getElem hi] at this
    simp only [Array.getElem_map, Array.getElem_range, List.size_toArray, List.getElem_toArray]
    rw [getElem!_pos l.toArray _ (by simpa using hi)]
    simpa using (Option.some.inj this).symm
def reps (m : Nat) (z : List Seg) : List Seg := (List.replicate m z).flatten
theorem flat_reps (z : List Seg) : ∀ m, flat (reps m z) = (List.replicate m (flat z)).flatten
  | 0 => rfl
  | m + 1 => by
    have := flat_reps z m
    simp only [reps, List.replicate_succ, List.flatten_cons] at this ⊢
    rw [flat_append, this]
theorem oks_reps {z : List Seg} (hz : oks z) : ∀ m, oks (reps m z)
  | 0 => trivial
  | m + 1 => by
    have := oks_reps hz m
    simp only [reps, List.replicate_succ, List.flatten_cons] at this ⊢
    exact oks_append.2 ⟨hz, this⟩
/-- Segments, one behind the other. -/
def scat : List (Nat × List Seg) → List Seg
  | [] => []
  | p :: r => p.2 ++ scat r
instance LNorm.scatnil : LNorm (scat []) [] := ⟨rfl⟩
instance LNorm.scatcons (i : Nat) (s : List Seg) (r : List (Nat × List Seg)) (x : List Seg) [h : LNorm (s ++ scat r) x] : LNorm (scat ((i, s) :: r)) x := ⟨by rw [← h.eq]; rfl⟩
theorem fold_cells (sz : Nat) (l zs : List Value) (off : Nat) (h : off + l.length ≤ zs.length) : (l.toArray.zipIdx.foldl (fun (c : Array Value) (p : Value × Nat) => c.setIfInBounds (off + p.2) p.1) zs.toArray) = (zs.take off ++ l ++ zs.drop (off + l.length)).toArray := by
  have := fold_set l off 0 zs (by omega)
  rw [← Array.foldl_toList]
  simp only [Array.toList_zipIdx]
  simpa using this
theorem fill_seq (sz : Nat) : ∀ (vs : List Value) (k : Nat) (zs : List Value), (∀ v ∈ vs, v.cells.size = sz) → zs.length = (k + vs.length) * sz →
    Instr.fill (fun i => some (i * sz, sz)) zs.toArray ((vs.zipIdx k).map fun p => (p.2, p.1)) = some (zs.take (k * sz) ++ vs.flatMap fun v => v.cells.toList).toArray
  | [], k, zs, _, h => by simp at h; simp [Instr.fill, ← h]
  | v :: vs, k, zs, h1, h => by
    have hc := h1 v List.mem_cons_self
    simp only [List.length_cons] at h
    have hm : (k + (vs.length + 1)) * sz = k * sz + sz + vs.length * sz := by rw [Nat.add_mul, Nat.add_mul]; omega
    simp only [List.zipIdx_cons, List.map_cons, Instr.fill]
    have hn : ¬ ((decide (v.cells.size ≠ sz) || decide (k * sz + v.cells.size > zs.toArray.size)) = true) := by simp [hc]; omega
    rw [if_neg hn]
    have e := fold_cells sz v.cells.toList zs (k * sz) (by simp [hc]; omega)
    simp only [Array.toArray_toList, Array.length_toList, hc] at e
    rw [e]
    rw [fill_seq sz vs (k + 1) _ (fun u hu => h1 u (List.mem_cons_of_mem _ hu)) (by simp [hc]; rw [Nat.add_mul, Nat.add_mul]; omega)]
    congr 2
    rw [List.flatMap_cons, ← List.append_assoc]
    congr 1
    rw [List.take_append_of_le_length (by simp [hc]; rw [Nat.add_mul]; omega), List.take_of_length_le (by simp [hc]; rw [Nat.add_mul]; omega)]
theorem SegsL.cells {vs : List (Nat × Value)} {ss : List (Nat × List Seg)} : ∀ (_ : SegsL vs ss) (sz : Nat), (ss.all fun p => Nat.beq (swidth p.2) sz) = true →
    (∀ p ∈ vs, p.2.cells.size = sz) ∧ (vs.flatMap fun p => p.2.cells.toList) = flat (scat ss) ∧ oks (scat ss) := by
  induction vs generalizing ss with
  | nil => intro h sz _; cases ss with
    | nil => exact ⟨fun p hp => (by cases hp), rfl, trivial⟩
    | cons p r => have := h.len; simp at this
  | cons v vs ih => intro h sz ha; cases ss with
    | nil => have := h.len; simp at this
    | cons p r =>
      have h0 := (h.ok 0).2 v p rfl rfl
      have hs' : SegsL vs r := ⟨fun j => by simpa using h.ok (j + 1), by have := h.len; simpa using this⟩
      simp only [List.all_cons, Bool.and_eq_true] at ha
      obtain ⟨i1, i2, i3⟩ := ih hs' sz ha.2
      have hsz : v.2.cells.size = sz := by rw [h0.1]; simp; rw [← swidth_eq h0.2]; exact Nat.eq_of_beq_eq_true ha.1
      refine ⟨fun q hq => ?_, ?_, oks_append.2 ⟨h0.2, i3⟩⟩
      · rcases List.mem_cons.1 hq with rfl | hq
        · exact hsz
        · exact i1 q hq
      · simp only [List.flatMap_cons, scat, flat_append, i2, h0.1]
theorem o_bs {t e sz len ty d : Nat} {ps : Array (Nat × Operand)} {vs : List (Nat × Value)} {ss : List (Nat × List Seg)} {z x' : List Seg} {pos : String} {af : Array Edge} {g : Option (Nat × Bool)} [hu : TyU P t (.slice e)] [hsz : TyS P e sz] [hz : TyZ P e z] (hv : evp E ps.toList = some vs) [hs : SegsL vs ss]
    (hw' : Nat.beq (swidth z) sz = true) (hb : Nat.ble (len * sz) 16777216 = true) (hi : vs.map (·.1) = List.range len) (ha : (ss.all fun p => Nat.beq (swidth p.2) sz) = true) [ln : LNorm (scat ss) x'] (hd : Nat.blt d n = true)
    (h : ∀ b, KGo W0 n K ((d, .slice (some ⟨b, 0, none⟩) len len) :: E) ds B (bk b e x' :: L)) : KGo W0 n (wo P ro ⟨some d, .buildSlice t len ps, ty, pos, af, g⟩ K Q) E ds B L := fun a w ha' hw => by
  obtain ⟨zv, hz1, hz2⟩ := hz.run w
  obtain ⟨c1, c2, c3⟩ := hs.cells sz ha
  rw [ln.eq] at c2 c3
  have hzl : (flat z).length = sz := by rw [← swidth_eq hz.ok]; exact Nat.eq_of_beq_eq_true hw'
  have ev1 : (ps.map fun p => (p.1, a.eval p.2)) = vs.toArray := by rw [← Array.toList_inj]; simpa using ha'.evps hv
  have ev2 : (ps.map fun (i, x) => (i, a.eval x)) = vs.toArray := ev1
  have hlen : vs.length = len := by have := congrArg List.length hi; simpa using this
  have hvs : (((vs.map (·.2)).zipIdx 0).map fun p => (p.2, p.1)) = vs := by
    apply List.ext_getElem?
    intro j
    simp only [List.getElem?_map, List.getElem?_zipIdx]
    have h1 : (vs.map (·.1))[j]? = (List.range len)[j]? := by rw [hi]
    cases hj : vs[j]? with
    | none => simp [hj]
    | some p =>
      have hlt : j < len := by have := (List.getElem?_eq_some_iff.1 hj).1; omega
      rw [List.getElem?_map, hj, List.getElem?_range hlt] at h1
      simp at h1
      obtain ⟨i, v⟩ := p
      simp at h1
      subst h1
      simp [hj]
  have hzero : ∀ (z0 : Array Value), (len * sz ≠ 0 → z0 = zv.cells) → ((Array.range (len * sz)).map (fun (i : Nat) => z0[i % z0.size]!)) = ((List.replicate len (flat z)).flatten).toArray := fun z0 h0 => by
    by_cases hls : len * sz = 0
    · rw [hls]
      have : (List.replicate len (flat z)).flatten = [] := List.eq_nil_of_length_eq_zero (by simp [hzl, hls])
      rw [this]; simp
    · rw [h0 hls, hz2]
      have := zeros_eq len (flat z)
      rw [hzl] at this
      exact this
  have hfill := fill_seq sz (vs.map (·.2)) 0 ((List.replicate len (flat z)).flatten) (fun v hv => by
    obtain ⟨p, hp, rfl⟩ := List.mem_map.1 hv
    exact c1 p hp) (by simp [hzl, hlen])
  rw [hvs] at hfill
  have hfl : ((List.replicate len (flat z)).flatten.take (0 * sz) ++ (vs.map (·.2)).flatMap fun v => v.cells.toList) = flat x' := by
    rw [← c2]; simp [List.flatMap_map]
  rw [hfl] at hfill
  have hble := Nat.le_of_ble_eq_true hb
  refine op_val (w' := { w with heap := w.heap.push (.cells (flat x').toArray e) }) (v := .slice (some ⟨w.heap.size, 0, none⟩) len len) ?_ (h _ _ _ (ha'.put (Nat.le_of_ble_eq_true hd) _) ((hw.alloc _).ent (Ent.bk c3 L)))
  simp only [execOp, Sem.run_bind]
  rw [ev2]
  have hn : ¬ (len * sz > 2 ^ 24) := by omega
  simp only [Instr.buildSlice, Sem.run_bind, hu.run, hsz.run, Result.andThen_ok, hn, if_false]
  by_cases hls : len * sz = 0
  · simp only [hls, if_true, Sem.run_bind, Sem.run_pure, Result.andThen_ok]
    have := hzero #[] (fun hne => absurd hls hne)
    rw [hls] at this
    rw [this, hfill]
    simp [newRow]
  · simp only [hls, if_false, Sem.run_bind, hz1, Sem.run_pure, Result.andThen_ok]
    rw [hzero zv.cells (fun _ => rfl), hfill]
    simp [newRow]

/-! ### Slices of arrays -/
theorem y_slah {t e sz ty : TypeId} {x hi : Operand} {b o m j : Nat} {k : IntKind} {ih : Int} [hu : TyU P t (.array m e)] [hs : TyS P e sz] (hx : ev E x = some (.pointer (some ⟨b, o, none⟩))) (hh : ev E hi = some (.int k ih)) (hj : ih = (j : Int)) (hjm : j ≤ m) : Yld P (.slice t x none (some hi) none) ty E B L (.slice (some ⟨b, o, none⟩) j m) := fun _ _ _ a w _ _ _ _ hk _ => by
  subst hj
  simp [execOp, hk.eval hx, hk.eval hh, Instr.sliceAt, Instr.sureAddr, hu.run, hs.run, Instr.sliceBounds, Instr.sliceBound, asIntOf, Addr.add, hjm]
/-- An array out of a slice. -/
theorem y_sap {arr e ty : TypeId} {x : Operand} {a : Option Addr} {m len cap : Nat} [hu : TyU P arr (.array m e)] (hx : ev E x = some (.slice a len cap)) (hm : m ≤ len) : Yld P (.sliceToArrayPointer arr x) ty E B L (.pointer a) := fun _ _ _ ac w _ _ _ _ hk _ => by
  have : ¬ (len < m) := by omega
  simp [execOp, hk.eval hx, Instr.arrayAt, hu.run, this]

/-! ### Copies -/
theorem o_copy {t e sz d bd od dl dc m2 ty : Nat} {x y : Operand} {pos : String} {af : Array Edge} {g : Option (Nat × Bool)} {tb : TypeId} {s : List Seg} {R : List Asrt} {xv : Value} {ys : List Value} {t2 : TypeId} [hu : TyU P t (.slice e)] [hsz : TyS P e sz] [p : PickB bd L tb s R]
    (hx : ev E x = some (.slice (some ⟨bd, od, none⟩) dl dc)) (hy : ev E y = some xv) (src : Src P sz B R xv m2 ys) (hm : m2 ≤ dl) (s' : List Seg) (hs' : (flat s).take od ++ ys ++ (flat s).drop (od + ys.length) = flat s') (hb : od + ys.length ≤ swidth s) [ho : OkS s'] (hd : Nat.blt d n = true)
    (h : KGo W0 n K ((d, .int .i64 (m2 : Int)) :: E) ds B (bk bd tb s' :: R)) : KGo W0 n (wo P ro ⟨some d, .call ⟨.builtin .copy, #[x, y], #[t, t2]⟩, ty, pos, af, g⟩ K Q) E ds B L := fun a w ha hw => by
  have hw1 := hw.ent p.out
  obtain ⟨hok, hw2⟩ := hw1.bk
  obtain ⟨w', hrr, hh⟩ := run_put (P := P) (o := od) ys 0 _ w hw2 (by rw [swidth_eq hok] at hb; simpa using hb) src.one
  have hcells := src.cells W0 w (hw1.ent (Ent.drop _ _))
  refine op_val (w' := w') (v := .int .i64 (m2 : Int)) ?_ (h _ w' (ha.put (Nat.le_of_ble_eq_true hd) _) ?_)
  · have hmin : Nat.min m2 dl = m2 := Nat.min_eq_left hm
    simp only [execOp, resolve, invoke, builtin, Sem.run_bind, Sem.run_pure, Result.andThen_ok, List.map_toArray, List.map_cons, List.map_nil, ha.eval hx, ha.eval hy, Builtin.copy_, List.getElem?_toArray, List.getElem?_cons_zero, List.getElem?_cons_succ, hu.run, src.len, hsz.run, hmin, hcells]
    simp only [hrr, Result.andThen_ok, goInt]
  · have e3 : flat s' = (flat s).take (od + 0) ++ ys ++ (flat s).drop (od + 0 + ys.length) := by rw [← hs']; simp
    have : Holds W0 B (ob bd (.cells (flat s').toArray tb (0, 0)) :: R) w' := by rw [e3]; exact hh
    exact this.ent (Ent.bk ho.out R)
end
end Sc
