/- From what a call comes to, to what a row says; and what arguments are in memory. -/
import Derived.Test.YtokekdbdnonebaaEngW
import Derived.ProofKit
import Derived.DataElems
namespace Sc
open Go Go.ChangeShapes Go.WideShapes Go.ChangeAt Go.RowKit
/-- All that lies in a world. -/
def hpH (w : World) : PH := fun b => w.heap[b]?
theorem holds_all (w : World) : Holds w (hpH w) ([] ++ [fun h => h = PH.emp]) w :=
  ⟨⟨rfl, rfl, rfl, Nat.le_refl _⟩, fun _ _ h => h, PH.emp, PH.disj_emp _, (stars_one _ _).2 rfl, fun _ _ h => by cases h⟩
theorem of_tri {P : Program} {f : FuncId} {args : List Value} {w : World} {v0 : Value} (T : Tri P f args (hpH w) [] fun v _ L' => v = v0 ∧ L' = []) : Calls P f args.toArray w fun e w' => e = .returned v0 ∧ Below w.heap.size w w' := by
  refine (CallsIn.calls (T w _ w (holds_all w)) (fun k => by simp [Fence.room])).mono ?_
  rintro e w' ⟨v, B', L', rfl, hle, ⟨rfl, rfl⟩, hw⟩
  obtain ⟨hb, hs, _⟩ := hw
  refine ⟨rfl, hb.os, hb.tape, hb.output, hb.size, fun k hk => ?_⟩
  have h1 : hpH w k = some w.heap[k] := by simp [hpH, hk]
  rw [hs _ _ (hle _ _ h1)]
  simp [hk]
section
variable {H : Type} {enc : TypeId × Value → H} {P : Program}
theorem trodAll_below (hl : laidOutB P = true) {W W' : World} (hb : Below W.heap.size W W') : ∀ {ts : List TypeId} {vs : List Value} {ds : List (DataW H)} {ps : List MemPlace}, (∀ t ∈ ts, P.readableRec t = true ∧ t < P.types.size) → DataW.TrodAll enc P W 0 (fun _ => true) true ts vs ds ps → (∀ x ∈ ps, x.block < W.heap.size) →
    DataW.TrodAll enc P W' 0 (fun b => decide (b < W.heap.size)) true ts vs ds ps
  | [], [], [], _, _, h, _ => h
  | t :: ts, v :: vs, d :: ds, _, ht, ⟨p, q, h1, h2, e⟩, hlt => by
    subst e
    obtain ⟨r1, r2⟩ := ht t List.mem_cons_self
    exact ⟨p, q, Below.trod hl r1 r2 h1 hb fun x hx => hlt x (List.mem_append_left _ hx), trodAll_below hl hb (fun t ht' => ht t (List.mem_cons_of_mem _ ht')) h2 fun x hx => hlt x (List.mem_append_right _ hx), rfl⟩
  | [], _ :: _, _, _, _, h, _ => by cases h
  | [], [], _ :: _, _, _, h, _ => by cases h
  | _ :: _, [], _, _, _, h, _ => by cases h
  | _ :: _, _ :: _, [], _, _, h, _ => by cases h
/-- A law's end: it is true, and what came in reads as it did. -/
theorem post_law {f : Func} {s : ChangeSpec} {W W' : World} {args : Array Value} {ds gs : List (DataW H)} {before : List MemPlace} {bt : TypeId} (hl : laidOutB P = true) (ht : ∀ t ∈ f.params.toList, P.readableRec t = true ∧ t < P.types.size) (hv : s.vars = [])
    (hres : f.resultTypes = #[bt]) (hbt : P.underlying bt = some .bool) (hW : DataW.Whole enc P f.params.toList s.vars false W args.toList ds gs before)
    (hf : (s.fn H (ds ++ gs)).results = [.lit (.bool true)] ∧ (s.fn H (ds ++ gs)).args = ds ∧ (s.fn H (ds ++ gs)).vars = []) (hb : Below W.heap.size W W') : s.post enc P f false true false false W args (.bool true) W' := by
  have hlt := fun p hp => hW.lt p hp
  obtain ⟨p, q, hA, hV, e, _⟩ := id hW
  rw [hv] at hV
  obtain ⟨_, rfl⟩ := trodVars_none hV
  subst e
  rw [List.append_nil] at hlt
  refine ⟨ds, gs, p ++ [], [], p, [], hW, ?_, ?_, ?_, hb.frame _, fun h => by cases h⟩
  · rw [hf.1, hres]; exact trodAll_mk1 (shut_bool hbt _)
  · rw [hf.2.1]; exact trodAll_below hl hb ht hA hlt
  · rw [hf.2.2, hv]; rfl

/-! ### Arguments in memory -/
theorem flat_uni {α : Type} {sz : Nat} : ∀ (css : List (List α)) (i j : Nat), (∀ c ∈ css, c.length = sz) → j < sz → css.flatten[i * sz + j]? = (css[i]?).bind (·[j]?)
  | [], i, j, _, _ => by simp
  | c :: css, 0, j, h, hj => by
    have := h c List.mem_cons_self
    simp [List.getElem?_append_left (show j < c.length by omega)]
  | c :: css, i + 1, j, h, hj => by
    have h1 := h c List.mem_cons_self
    have ih := flat_uni css i j (fun d hd => h d (List.mem_cons_of_mem _ hd)) hj
    rw [List.flatten_cons, List.getElem?_append_right (by rw [h1, Nat.add_mul]; omega), h1, show (i + 1) * sz + j - sz = i * sz + j by rw [Nat.add_mul]; omega, ih]
    simp
theorem flat_len {α : Type} {sz : Nat} : ∀ (css : List (List α)), (∀ c ∈ css, c.length = sz) → css.flatten.length = css.length * sz
  | [], _ => by simp
  | c :: css, h => by
    rw [List.flatten_cons, List.length_append, flat_len css fun d hd => h d (List.mem_cons_of_mem _ hd), h c List.mem_cons_self, List.length_cons, Nat.add_mul]; omega
theorem mapM_get {α β : Type} {f : α → Option β} : ∀ {l : List α} {r : List β}, l.mapM f = some r → r.length = l.length ∧ ∀ (i : Nat) a b, l[i]? = some a → r[i]? = some b → f a = some b
  | [], r, h => by
    simp at h; subst h
    exact ⟨rfl, fun i a b h => by simp at h⟩
  | x :: l, r, h => by
    rw [List.mapM_cons] at h
    cases hx : f x with
    | none => rw [hx] at h; cases h
    | some y =>
      rw [hx] at h
      cases hl : l.mapM f with
      | none => rw [hl] at h; cases h
      | some ys =>
        rw [hl] at h
        simp at h; subst h
        obtain ⟨e1, e2⟩ := mapM_get hl
        refine ⟨by simp [e1], fun i a b ha hb => ?_⟩
        cases i with
        | zero => simp at ha hb; subst ha; subst hb; exact hx
        | succ i => exact e2 i a b (by simpa using ha) (by simpa using hb)
theorem cells_get {w : World} {a : Addr} {n : Nat} {cs : List Value} (h : w.cells? 0 a n = some cs) : cs.length = n ∧ ∀ (j : Nat) v, cs[j]? = some v → w.cell? (a.add j) = some v := by
  unfold World.cells? at h
  rw [if_pos (Nat.zero_le _)] at h
  obtain ⟨h1, h2⟩ := mapM_get h
  rw [List.length_range] at h1
  refine ⟨h1, fun j v hv => ?_⟩
  have hj := (List.getElem?_eq_some_iff.1 hv).1
  exact h2 j j v (by rw [List.getElem?_range (by omega)]) hv
theorem prow_of {w : World} {a : Addr} {cs : List Value} (h : ∀ (j : Nat) v, cs[j]? = some v → w.cell? (a.add j) = some v) (hne : cs ≠ []) : ∃ b o, a = ⟨b, o, none⟩ ∧ prow (hpH w) b o cs := by
  obtain ⟨b, o, sp⟩ := a
  have hpos : 0 < cs.length := List.length_pos_iff.2 hne
  have h0 := h 0 cs[0] (List.getElem?_eq_getElem hpos)
  have hsp : sp = none := by
    have e0 : (⟨b, o, sp⟩ : Addr).add 0 = ⟨b, o, sp⟩ := by simp [Addr.add]
    rw [e0] at h0
    cases sp with
    | none => rfl
    | some s =>
      simp only [World.cell?] at h0
      split at h0
      · simp at h0
      · cases h0
  subst hsp
  have cellq : ∀ j, w.cell? ((⟨b, o, none⟩ : Addr).add j) = match w.heap[b]? with
      | some (.cells c _ _) => c[o + j]?
      | _ => none := fun j => by
    rw [Addr.add_eq]; simp only [World.cell?, Option.isSome_none, Bool.false_eq_true, if_false]
    cases w.heap[b]? with
    | none => rfl
    | some o => cases o <;> rfl
  rw [cellq] at h0
  cases hb : w.heap[b]? with
  | none => rw [hb] at h0; cases h0
  | some ob =>
    cases ob with
    | cells c t fr =>
      · refine ⟨b, o, rfl, c, t, fr, hb, ?_, ?_⟩
        · apply List.ext_getElem?
          intro j
          by_cases hj : j < cs.length
          · have := h j cs[j] (List.getElem?_eq_getElem hj)
            rw [cellq, hb] at this
            rw [List.getElem?_take_of_lt hj, List.getElem?_drop, List.getElem?_eq_getElem hj]
            simpa using this
          · rw [List.getElem?_eq_none (by simp; omega), List.getElem?_eq_none (by omega)]
        · have hl := List.length_pos_iff.2 hne
          have := h (cs.length - 1) cs[cs.length - 1] (List.getElem?_eq_getElem (by omega))
          rw [cellq, hb] at this
          have := (Array.getElem?_eq_some_iff.1 this).1
          omega
    | _ => rw [hb] at h0; cases h0
/-- A slice that came in: its elements' cells. -/
theorem open_row {w : World} {sp : Nat → Bool} {held : Bool} {fuel : Nat} {t e sz : Nat} {cs : List Value} {x : DataW H × List MemPlace} (ht : P.underlying t = some (.slice e)) (hc : P.cellsOf e = sz) (hsz : 0 < sz) (h : DataW.trod enc P w 0 sp held fuel t cs = some x) :
    ∃ v, ∃ css : List (List Value), cs = [v] ∧ prd (hpH w) v css.length css.flatten ∧ css.length ≤ 9223372036854775807 ∧ ∀ c ∈ css, c.length = sz ∧ ∃ k y, DataW.trod enc P w 0 sp held k e c = some y := by
  rcases DataW.trod_slice ht h with ⟨rfl, _⟩ | ⟨a, len, cap, elems, rest, n, _, rfl, _, _, hl, hm, hel, hes, _⟩
  · exact ⟨_, [], rfl, prd.nil _, Nat.zero_le _, fun c hc => by cases hc⟩
  · have key : ∀ i, i < len → ∃ c, w.cells? 0 (a.add (i * sz)) sz = some c ∧ ∃ y, DataW.trod enc P w 0 sp held n e c = some y := fun i hi => by
      have h1 := hes i hi
      rw [hc, List.getElem?_eq_getElem (by omega)] at h1
      cases hcc : w.cells? 0 (a.add (i * sz)) sz with
      | none => rw [hcc] at h1; cases h1
      | some c => rw [hcc] at h1; exact ⟨c, rfl, _, h1⟩
    let css : List (List Value) := (List.range len).map fun i => if hi : i < len then Classical.choose (key i hi) else []
    have hcs : ∀ i, i < len → ∃ c, css[i]? = some c ∧ w.cells? 0 (a.add (i * sz)) sz = some c ∧ ∃ y, DataW.trod enc P w 0 sp held n e c = some y := fun i hi => by
      refine ⟨Classical.choose (key i hi), ?_, Classical.choose_spec (key i hi)⟩
      simp [css, hi]
    have hlen : css.length = len := by simp [css]
    have hmem : ∀ c ∈ css, c.length = sz ∧ ∃ k y, DataW.trod enc P w 0 sp held k e c = some y := fun c hc' => by
      obtain ⟨i, hi, rfl⟩ := List.mem_iff_getElem.1 hc'
      obtain ⟨c', e1, e2, y, e3⟩ := hcs i (by omega)
      rw [List.getElem?_eq_getElem hi] at e1
      cases e1
      exact ⟨(cells_get e2).1, n, y, e3⟩
    refine ⟨_, css, rfl, ⟨some a, cap, by rw [hlen], by omega, fun hne => ?_⟩, by rw [hlen]; unfold maxLen at hm; omega, hmem⟩
    obtain ⟨b, o, rfl, hp⟩ := prow_of (w := w) (a := a) (cs := css.flatten) (fun k v hv => by
      have hk := (List.getElem?_eq_some_iff.1 hv).1
      rw [flat_len css fun c hc => (hmem c hc).1, hlen] at hk
      have hi : k / sz < len := by rw [Nat.div_lt_iff_lt_mul hsz]; exact hk
      obtain ⟨c, e1, e2, _⟩ := hcs (k / sz) hi
      have hj : k % sz < sz := Nat.mod_lt _ hsz
      have hk2 : k = k / sz * sz + k % sz := by rw [Nat.mul_comm]; exact (Nat.div_add_mod k sz).symm
      rw [hk2, flat_uni css _ _ (fun c hc => (hmem c hc).1) hj, e1] at hv
      have := (cells_get e2).2 (k % sz) v hv
      rw [hk2]
      rw [Addr.add_add] at this
      exact this) hne
    exact ⟨b, o, rfl, hp⟩
theorem wf8 {n : Int} (h : (Lit.int .u8 n).wf = true) : ∃ x : UInt8, Value.int .u8 n = cB x := by
  simp only [Lit.wf, Bool.and_eq_true, decide_eq_true_eq] at h
  have h1 : IntKind.u8.min = 0 := by decide
  have h2 : IntKind.u8.max = 255 := by decide
  rw [h1, h2] at h
  refine ⟨UInt8.ofNat n.toNat, ?_⟩
  rw [cB, UInt8.toNat_ofNat_of_lt' (by show n.toNat < 256; omega), Int.toNat_of_nonneg h.1]
theorem bytes_of {w : World} {sp : Nat → Bool} {held : Bool} {e : Nat} (he : P.underlying e = some (.int .u8)) : ∀ {css : List (List Value)}, (∀ c ∈ css, c.length = 1 ∧ ∃ k y, DataW.trod enc P w 0 sp held k e c = some y) → ∃ l : List UInt8, l.length = css.length ∧ css.flatten = cBs l
  | [], _ => ⟨[], rfl, rfl⟩
  | c :: css, h => by
    obtain ⟨l, h1, h2⟩ := bytes_of he fun d hd => h d (List.mem_cons_of_mem _ hd)
    obtain ⟨_, k, y, hy⟩ := h c List.mem_cons_self
    obtain ⟨n, rfl, _, hw⟩ := DataW.trod_int he hy
    obtain ⟨x, hx⟩ := wf8 hw
    exact ⟨x :: l, by simp [h1], by simp [h2, hx, cBs]⟩
theorem open_bytes {w : World} {sp : Nat → Bool} {held : Bool} {fuel : Nat} {t e : Nat} {cs : List Value} {x : DataW H × List MemPlace} (ht : P.underlying t = some (.slice e)) (hc : P.cellsOf e = 1) (he : P.underlying e = some (.int .u8)) (h : DataW.trod enc P w 0 sp held fuel t cs = some x) :
    ∃ v, ∃ l : List UInt8, cs = [v] ∧ IsB (hpH w) v l ∧ l.length ≤ 9223372036854775807 := by
  obtain ⟨v, css, rfl, hp, hm, hall⟩ := open_row ht hc (by decide) h
  obtain ⟨l, h1, h2⟩ := bytes_of he hall
  exact ⟨v, l, rfl, by rw [IsB, h1, ← h2]; exact hp, by omega⟩
theorem ints_of {w : World} {sp : Nat → Bool} {held : Bool} {e : Nat} {ik : IntKind} (he : P.underlying e = some (.int ik)) : ∀ {css : List (List Value)}, (∀ c ∈ css, c.length = 1 ∧ ∃ k y, DataW.trod enc P w 0 sp held k e c = some y) → ∃ l : List Int, l.length = css.length ∧ css.flatten = l.map (fun x => Value.int ik x) ∧ ∀ n ∈ l, (Lit.int ik n).wf = true
  | [], _ => ⟨[], rfl, rfl, fun n hn => by cases hn⟩
  | c :: css, h => by
    obtain ⟨l, h1, h2, h3⟩ := ints_of he fun d hd => h d (List.mem_cons_of_mem _ hd)
    obtain ⟨_, k, y, hy⟩ := h c List.mem_cons_self
    obtain ⟨n, rfl, _, hw⟩ := DataW.trod_int he hy
    exact ⟨n :: l, by simp [h1], by simp [h2], fun m hm => by
      rcases List.mem_cons.1 hm with rfl | hm
      · exact hw
      · exact h3 m hm⟩
theorem opn_ints {w : World} {sp : Nat → Bool} {held : Bool} {fuel : Nat} {t e : Nat} {ik : IntKind} {cs : List Value} {x : DataW H × List MemPlace} (ht : P.underlying t = some (.slice e)) (hc : P.cellsOf e = 1) (he : P.underlying e = some (.int ik)) (h : DataW.trod enc P w 0 sp held fuel t cs = some x) :
    ∃ v, ∃ l : List Int, cs = [v] ∧ prd (hpH w) v l.length (l.map fun x => Value.int ik x) ∧ l.length ≤ 9223372036854775807 ∧ ∀ n ∈ l, (Lit.int ik n).wf = true := by
  obtain ⟨v, css, rfl, hp, hm, hall⟩ := open_row ht hc (by decide) h
  obtain ⟨l, h1, h2, h3⟩ := ints_of he hall
  exact ⟨v, l, rfl, by rw [h1, ← h2]; exact hp, by omega, h3⟩
theorem bb_of {w : World} {sp : Nat → Bool} {held : Bool} {e e2 : Nat} (he : P.underlying e = some (.slice e2)) (hc : P.cellsOf e2 = 1) (he2 : P.underlying e2 = some (.int .u8)) : ∀ {css : List (List Value)}, (∀ c ∈ css, c.length = 1 ∧ ∃ k y, DataW.trod enc P w 0 sp held k e c = some y) →
    ∃ us, ∃ ls : List (List UInt8), us.length = css.length ∧ css.flatten = us ∧ IsBs (hpH w) us ls ∧ ∀ l ∈ ls, l.length ≤ 9223372036854775807
  | [], _ => ⟨[], [], rfl, rfl, trivial, fun l hl => by cases hl⟩
  | c :: css, h => by
    obtain ⟨us, ls, h1, h2, h3, h4⟩ := bb_of he hc he2 fun d hd => h d (List.mem_cons_of_mem _ hd)
    obtain ⟨_, k, y, hy⟩ := h c List.mem_cons_self
    obtain ⟨v, l, rfl, hb, hl⟩ := open_bytes he hc he2 hy
    exact ⟨v :: us, l :: ls, by simp [h1], by simp [h2], ⟨hb, h3⟩, fun m hm => by
      rcases List.mem_cons.1 hm with rfl | hm
      · exact hl
      · exact h4 m hm⟩
theorem open_bb {w : World} {sp : Nat → Bool} {held : Bool} {fuel : Nat} {t e e2 : Nat} {cs : List Value} {x : DataW H × List MemPlace} (ht : P.underlying t = some (.slice e)) (hc1 : P.cellsOf e = 1) (he : P.underlying e = some (.slice e2)) (hc : P.cellsOf e2 = 1) (he2 : P.underlying e2 = some (.int .u8)) (h : DataW.trod enc P w 0 sp held fuel t cs = some x) :
    ∃ v, ∃ ls : List (List UInt8), cs = [v] ∧ IsBB (hpH w) v ls ∧ ls.length ≤ 9223372036854775807 ∧ ∀ l ∈ ls, l.length ≤ 9223372036854775807 := by
  obtain ⟨v, css, rfl, hp, hm, hall⟩ := open_row ht hc1 (by decide) h
  obtain ⟨us, ls, h1, h2, h3, h4⟩ := bb_of he hc he2 hall
  obtain ⟨e1, e3⟩ := h3.get
  exact ⟨v, ls, rfl, ⟨us, e1, by rw [← e1, h1, ← h2]; exact hp, e3⟩, by omega, h4⟩
theorem trod_one {w : World} {sp : Nat → Bool} {held : Bool} {t : Nat} {v : Value} {d : DataW H} {ps : List MemPlace} (h : DataW.Trod enc P w 0 sp held t v d ps) : ∃ fuel, DataW.trod enc P w 0 sp held fuel t v.cells.toList = some (d, ps) := h
/-- A value of one cell is that cell, if it is no array's or struct's. -/
theorem cells_one {v u : Value} (h : v.cells.toList = [u]) : v = u ∨ ∃ cs, v = .agg cs := by
  cases v with
  | agg cs => exact .inr ⟨cs, rfl⟩
  | _ => simp [Value.cells] at h; exact .inl h
end
end Sc
