/- Slices: what is read on the pile, what is owned and grows; appends. -/
import Derived.Test.YtokekdbdnonebaaEngG
import Derived.Laws.AppendOwn
namespace Sc
open Go

/-! ### Bytes and sums -/
def cB (x : UInt8) : Value := .int .u8 (x.toNat : Int)
def cBs (l : List UInt8) : List Value := l.map cB
theorem cBs_length (l : List UInt8) : (cBs l).length = l.length := by simp [cBs]
theorem cBs_one (l : List UInt8) : ∀ v ∈ cBs l, v.oneCell' = true := fun v hv => by
  obtain ⟨x, _, rfl⟩ := List.mem_map.1 hv; rfl
theorem cBs_append (l m : List UInt8) : cBs (l ++ m) = cBs l ++ cBs m := by simp [cBs]
theorem cB_inj {x y : UInt8} (h : cB x = cB y) : x = y := by
  simp only [cB, Value.int.injEq, true_and] at h
  exact UInt8.toNat_inj.1 (by omega)
theorem cBs_inj {l m : List UInt8} (h : cBs l = cBs m) : l = m := by
  induction l generalizing m with
  | nil => cases m with
    | nil => rfl
    | cons y m => simp [cBs] at h
  | cons x l ih => cases m with
    | nil => simp [cBs] at h
    | cons y m =>
      simp only [cBs, List.map_cons, List.cons.injEq] at h
      rw [cB_inj h.1, ih h.2]
/-- A sum: thirty-two bytes. -/
structure ID where
  bs : List UInt8
  len : bs.length = 32
  deriving DecidableEq
theorem ID.ext' {a b : ID} (h : a.bs = b.bs) : a = b := by cases a; cases b; cases h; rfl
def zID : ID := ⟨List.replicate 32 0, by simp⟩
def ID.cs (i : ID) : List Value := cBs i.bs
instance (i : ID) : RowOk 32 i.cs := ⟨by simp [ID.cs, cBs, i.len], cBs_one _⟩
def vID (i : ID) : Value := agg [.row 32 i.cs]
theorem ID.cs_length (i : ID) : i.cs.length = 32 := by simp [ID.cs, cBs, i.len]
theorem ID.cs_inj {a b : ID} (h : a.cs = b.cs) : a = b := ID.ext' (cBs_inj h)

/-! ### Slices on the pile -/
/-- The slice v has m elements, whose cells are cs, on the pile. -/
def prd (B : PH) (v : Value) (m : Nat) (cs : List Value) : Prop := ∃ a c, v = .slice a m c ∧ m ≤ c ∧ (cs ≠ [] → ∃ b o, a = some ⟨b, o, none⟩ ∧ prow B b o cs)
theorem prd.mono {B B' : PH} {v : Value} {m : Nat} {cs : List Value} (h : prd B v m cs) (l : B.le B') : prd B' v m cs :=
  let ⟨a, c, h1, h2, h3⟩ := h
  ⟨a, c, h1, h2, fun hn => let ⟨b, o, h4, h5⟩ := h3 hn; ⟨b, o, h4, h5.mono l⟩⟩
theorem prd.nil (B : PH) : prd B (.slice none 0 0) 0 [] := ⟨none, 0, rfl, Nat.le_refl _, fun h => absurd rfl h⟩
def IsB (B : PH) (v : Value) (l : List UInt8) : Prop := prd B v l.length (cBs l)
theorem IsB.mono {B B' : PH} {v : Value} {l : List UInt8} (h : IsB B v l) (k : B.le B') : IsB B' v l := prd.mono h k
def IsIDs (B : PH) (v : Value) (l : List ID) : Prop := prd B v l.length (l.flatMap ID.cs)
theorem IsIDs.mono {B B' : PH} {v : Value} {l : List ID} (h : IsIDs B v l) (k : B.le B') : IsIDs B' v l := prd.mono h k
def IsBB (B : PH) (v : Value) (l : List (List UInt8)) : Prop := ∃ vs : List Value, vs.length = l.length ∧ prd B v l.length vs ∧ ∀ (i : Nat) u x, vs[i]? = some u → l[i]? = some x → IsB B u x
theorem IsBB.mono {B B' : PH} {v : Value} {l : List (List UInt8)} (h : IsBB B v l) (k : B.le B') : IsBB B' v l :=
  let ⟨vs, h1, h2, h3⟩ := h
  ⟨vs, h1, h2.mono k, fun i u x hu hx => (h3 i u x hu hx).mono k⟩
theorem prow.cell {B : PH} {b o : Nat} {cs : List Value} (h : prow B b o cs) {i : Nat} {v : Value} (hi : cs[i]? = some v) : pcell B b (o + i) v := by
  obtain ⟨ds, t, fr, h1, h2, h3⟩ := h
  refine ⟨ds, t, fr, h1, ?_⟩
  have hlt := (List.getElem?_eq_some_iff.1 hi).1
  rw [← h2, List.getElem?_take_of_lt hlt, List.getElem?_drop] at hi
  simpa using hi
theorem prow.sub {B : PH} {b o : Nat} {cs : List Value} (h : prow B b o cs) (i m : Nat) (hm : i + m ≤ cs.length) : prow B b (o + i) ((cs.drop i).take m) := by
  obtain ⟨ds, t, fr, h1, h2, h3⟩ := h
  have hl : ((cs.drop i).take m).length = m := by simp; omega
  refine ⟨ds, t, fr, h1, ?_, by rw [hl]; omega⟩
  rw [hl, ← h2, List.drop_take, List.take_take, List.drop_drop, Nat.min_eq_left (by omega)]

/-! ### Slices that are owned -/
def ow (e : TypeId) (sz : Nat) (v : Value) (m : Nat) (cs : List Value) : Asrt := fun h =>
  (v = .slice none 0 0 ∧ m = 0 ∧ cs = [] ∧ h = PH.emp) ∨
  (∃ b cap sp, v = .slice (some ⟨b, 0, none⟩) m cap ∧ cs.length = m * sz ∧ (cs ++ sp).length = cap * sz ∧ m ≤ cap ∧ (∀ c ∈ cs ++ sp, c.oneCell' = true) ∧ h = PH.one b (.cells (cs ++ sp).toArray e (0, 0)))
class PickW (v : Value) (L : List Asrt) (e : outParam TypeId) (sz : outParam Nat) (m : outParam Nat) (cs : outParam (List Value)) (R : outParam (List Asrt)) : Prop where
  out : Ent L (ow e sz v m cs :: R)
instance (priority := high) PickW.here (e sz m : Nat) (v : Value) (cs : List Value) (L : List Asrt) : PickW v (ow e sz v m cs :: L) e sz m cs L := ⟨Ent.refl _⟩
instance PickW.there (A : Asrt) (v : Value) (L R : List Asrt) (e sz m : Nat) (cs : List Value) [p : PickW v L e sz m cs R] : PickW v (A :: L) e sz m cs (A :: R) := ⟨(Ent.cons A p.out).trans (Ent.swap A _ R)⟩

section
variable {P : Program} {ro : Option Nat} {Q : Exit → Act → World → Prop} {W0 : World} {n : Nat} {K : Act → World → Prop} {E : Env} {ds : List Deferred} {B : PH} {L : List Asrt}

theorem Holds.ow {w : World} {e sz m : Nat} {v : Value} {cs : List Value} (h : Holds W0 B (Sc.ow e sz v m cs :: L) w) :
    (v = .slice none 0 0 ∧ m = 0 ∧ cs = [] ∧ Holds W0 B L w) ∨ ∃ b cap sp, v = .slice (some ⟨b, 0, none⟩) m cap ∧ cs.length = m * sz ∧ (cs ++ sp).length = cap * sz ∧ m ≤ cap ∧ (∀ c ∈ cs ++ sp, c.oneCell' = true) ∧ Holds W0 B (ob b (.cells (cs ++ sp).toArray e (0, 0)) :: L) w := by
  obtain ⟨hb, hp, k, d, ⟨h1, h2, d', rfl, ho, s⟩, t⟩ := h
  rcases ho with ⟨e1, e2, e3, rfl⟩ | ⟨b, cap, sp, e1, e2, e3, e4, e5, rfl⟩
  · exact .inl ⟨e1, e2, e3, hb, hp, _, d, by rw [PH.emp_cup]; exact s, t⟩
  · exact .inr ⟨b, cap, sp, e1, e2, e3, e4, e5, hb, hp, _, d, ⟨_, h2, d', rfl, rfl, s⟩, t⟩
theorem Ent.ow_nil (e sz : Nat) (L : List Asrt) : Ent L (Sc.ow e sz (.slice none 0 0) 0 [] :: L) := fun h hs => ⟨h, PH.le_refl _, PH.emp, h, PH.emp_disj _, (PH.emp_cup h).symm, .inl ⟨rfl, rfl, rfl, rfl⟩, hs⟩
theorem Ent.ow_row {e sz m b cap : Nat} {cs sp : List Value} (h1 : cs.length = m * sz) (h2 : (cs ++ sp).length = cap * sz) (h3 : m ≤ cap) (h4 : ∀ c ∈ cs ++ sp, c.oneCell' = true) (L : List Asrt) :
    Ent (ob b (.cells (cs ++ sp).toArray e (0, 0)) :: L) (Sc.ow e sz (.slice (some ⟨b, 0, none⟩) m cap) m cs :: L) := Ent.head L fun _ h => .inr ⟨b, cap, sp, rfl, h1, h2, h3, h4, h⟩
/-- A new slice is nobody else's. -/
theorem k_ownil (e sz : Nat) (h : KGo W0 n K E ds B (ow e sz (.slice none 0 0) 0 [] :: L)) : KGo W0 n K E ds B L := k_ent (Ent.ow_nil e sz L) h
theorem ow_one {e sz m : Nat} {v : Value} {cs : List Value} {h : PH} (ho : ow e sz v m cs h) : OneC v := by
  rcases ho with ⟨rfl, _⟩ | ⟨b, cap, sp, rfl, _⟩ <;> exact ⟨rfl⟩
/-- What is owned goes onto the pile. -/
theorem k_frzw {e sz m : Nat} {v : Value} {cs : List Value} {R : List Asrt} [p : PickW v L e sz m cs R] (h : ∀ B' : PH, B.le B' → prd B' v m cs → KGo W0 n K E ds B' R) : KGo W0 n K E ds B L := k_ent p.out <| k_freeze fun k hk hd => by
  refine h _ (PH.le_cup_left _ _) ?_
  rcases hk with ⟨rfl, rfl, rfl, rfl⟩ | ⟨b, cap, sp, rfl, h1, h2, h3, h4, rfl⟩
  · exact prd.nil _
  · refine ⟨_, cap, rfl, h3, fun _ => ⟨b, 0, rfl, _, e, (0, 0), PH.le_cup_right hd _ _ (PH.one_same b _), ?_, ?_⟩⟩
    · simp
    · simp
/-- A block goes onto the pile. -/
theorem k_frz (b : Nat) {t : TypeId} {s : List Seg} {R : List Asrt} [p : PickB b L t s R] (h : ∀ B' : PH, B.le B' → prow B' b 0 (flat s) → KGo W0 n K E ds B' R) : KGo W0 n K E ds B L := k_ent p.out <| k_freeze fun k hk hd => by
  obtain ⟨ho, rfl⟩ := hk
  exact h _ (PH.le_cup_left _ _) ⟨_, t, (0, 0), PH.le_cup_right hd _ _ (PH.one_same b _), by simp, by simp⟩
theorem k_frzo (b : Nat) {o : Obj} {R : List Asrt} [p : PickO b L o R] (h : ∀ B' : PH, B.le B' → B' b = some o → KGo W0 n K E ds B' R) : KGo W0 n K E ds B L := k_ent p.out <| k_freeze fun k hk hd => by
  obtain rfl := hk
  exact h _ (PH.le_cup_left _ _) (PH.le_cup_right hd _ _ (PH.one_same b _))

/-! ### Where an append reads from -/
/-- x has m elements, whose cells can be read. -/
structure Src (P : Program) (sz : Nat) (B : PH) (R : List Asrt) (x : Value) (m : Nat) (ys : List Value) : Prop where
  len : ∀ w, (Builtin.lenOf x).run P w = .ok m w
  cells : ∀ W0 w, Holds W0 B R w → (Builtin.firstCells sz m x).run P w = .ok ys.toArray w
  size : ys.length = m * sz
  one : ∀ v ∈ ys, v.oneCell' = true
theorem src_pile {sz m : Nat} {R : List Asrt} {x : Value} {ys : List Value} (h : prd B x m ys) (hs : ys.length = m * sz) (h1 : ∀ v ∈ ys, v.oneCell' = true) : Src P sz B R x m ys := by
  obtain ⟨a, c, rfl, hc, hr⟩ := h
  refine ⟨fun w => rfl, fun W0 w hw => ?_, hs, h1⟩
  by_cases he : ys = []
  · have h0 : m * sz = 0 := by rw [← hs, he]; rfl
    cases a with
    | none => subst he; rfl
    | some ad => simp only [Builtin.firstCells, h0, loadCells, loadCellsFrom, he]; rfl
  · obtain ⟨b, o, rfl, cs, t, fr, e1, e2, e3⟩ := hr he
    simp only [Builtin.firstCells]
    rw [run_loadCells' (hw.pile e1) (by omega), ← hs, e2]
theorem src_ow {sz m e : Nat} {R R' : List Asrt} {x : Value} {ys : List Value} [p : PickW x R e sz m ys R'] (hne : x ≠ .slice none 0 0 ∨ True) (hx : (∃ a c, x = .slice a m c)) (hs : ys.length = m * sz) (h1 : ∀ v ∈ ys, v.oneCell' = true) : Src P sz B R x m ys := by
  obtain ⟨a, c, rfl⟩ := hx
  refine ⟨fun w => rfl, fun W0 w hw => ?_, hs, h1⟩
  rcases (hw.ent p.out).ow with ⟨e1, e2, e3, _⟩ | ⟨b, cap, sp, e1, e2, e3, e4, e5, hh⟩
  · cases e1; subst e3; simp [Builtin.firstCells]
  · cases e1
    simp only [Builtin.firstCells]
    rw [run_loadCells' hh.get (by simp; omega)]
    simp [← hs]
theorem src_bk {sz m b o c tb : Nat} {R R' : List Asrt} {s x : List Seg} [p : PickB b R tb s R'] (hs : ssub s o (m * sz) = some x) (hm : Nat.beq (swidth x) (m * sz) = true) [ho : OkS x] : Src P sz B R (.slice (some ⟨b, o, none⟩) m c) m (flat x) := by
  refine ⟨fun w => rfl, fun W0 w hw => ?_, ?_, oks_mem ho.out⟩
  · obtain ⟨h1, h2⟩ := hw.block (p := p)
    obtain ⟨h3, h4, h5, h6⟩ := ssub_ok h2 hs
    simp only [Builtin.firstCells]
    rw [run_loadCells' h1 (by simpa using h6)]
    simp [h3]
  · rw [← swidth_eq ho.out]; exact Nat.eq_of_beq_eq_true hm
def isInt : TypeDesc → Bool
  | .slice _ | .string => false
  | _ => true
theorem isInt_of {d : TypeDesc} (h : isInt d = false) : (∃ e, d = .slice e) ∨ d = .string := by
  cases d <;> first | exact .inl ⟨_, rfl⟩ | exact .inr rfl | cases h
theorem run_app_room {t t2 e sz m c m2 : Nat} {ty : TypeId} {w w' : World} {ad : Addr} {xv : Value} {d2 : TypeDesc} {ys : List Value}
    (hu : ∀ w, (underlying t).run P w = .ok (.slice e) w) (hu2 : ∀ w, (underlying t2).run P w = .ok d2 w) (hni : isInt d2 = false) (hsz : ∀ w, (Go.sizeOf e).run P w = .ok sz w)
    (hl : ∀ w, (Builtin.lenOf xv).run P w = .ok m2 w) (hroom : m + m2 ≤ c) (hf : (Builtin.firstCells sz m2 xv).run P w = .ok ys.toArray w) (hst : (storeCells (ad.add (m * sz)) ys).run P w = .ok () w') :
    (Builtin.append_ #[t, t2] ty #[.slice (some ad) m c, xv]).run P w = .ok (.slice (some ad) (m + m2) c) w' := by
  rcases isInt_of hni with ⟨e2, rfl⟩ | rfl <;> simp [Builtin.append_, hu, hu2, hsz, hl, hroom, hf, hst]
theorem run_app_none {t t2 e sz : Nat} {ty : TypeId} {w : World} {xv : Value} {d2 : TypeDesc}
    (hu : ∀ w, (underlying t).run P w = .ok (.slice e) w) (hu2 : ∀ w, (underlying t2).run P w = .ok d2 w) (hni : isInt d2 = false) (hsz : ∀ w, (Go.sizeOf e).run P w = .ok sz w)
    (hl : ∀ w, (Builtin.lenOf xv).run P w = .ok 0 w) (hf : (Builtin.firstCells sz 0 xv).run P w = .ok #[] w) :
    (Builtin.append_ #[t, t2] ty #[.slice none 0 0, xv]).run P w = .ok (.slice none 0 0) w := by
  rcases isInt_of hni with ⟨e2, rfl⟩ | rfl <;> simp [Builtin.append_, hu, hu2, hsz, hl, hf]
theorem run_app_grow {t t2 e sz by' m c m2 : Nat} {ty : TypeId} {w : World} {base : Option Addr} {xv : Value} {d2 : TypeDesc} {i : TypeInfo} {z : Value} {xs ys : List Value}
    (hu : ∀ w, (underlying t).run P w = .ok (.slice e) w) (hu2 : ∀ w, (underlying t2).run P w = .ok d2 w) (hni : isInt d2 = false) (hsz : ∀ w, (Go.sizeOf e).run P w = .ok sz w) (hi : ∀ w, (typeInfo e).run P w = .ok i w) (hib : i.bytes = by')
    (hz : ∀ w, (zeroValue e).run P w = .ok z w) (hl : ∀ w, (Builtin.lenOf xv).run P w = .ok m2 w) (hb : (m + m2) * by' ≤ 140737488355328) (hb0 : 0 < by') (hg : c < m + m2)
    (hfo : (Builtin.firstCells sz m (.slice base m c)).run P w.drew = .ok xs.toArray w.drew) (hf : (Builtin.firstCells sz m2 xv).run P w.drew = .ok ys.toArray w.drew) :
    (Builtin.append_ #[t, t2] ty #[.slice base m c, xv]).run P w = .ok (.slice (some ⟨w.heap.size, 0, none⟩) (m + m2) (grownCap w (m + m2) c e))
      (w.drew.alloc (.cells (xs.toArray ++ ys.toArray ++ Builtin.zeroCells z.cells (grownCap w (m + m2) c e - (m + m2))) e)) := by
  have hn : ¬ (m + m2 ≤ c) := by omega
  have hsm : m + m2 ≤ 140737488355328 := Nat.le_trans (Nat.le_mul_of_pos_right _ hb0) hb
  have h63' : ¬ (9223372036854775807 < ((m : Int) + (m2 : Int))) := by omega
  have hib0 : ¬ i.bytes = 0 := by omega
  have h48' : ¬ (281474976710656 < Builtin.nextslicecap (m + m2) c * i.bytes) := by have := growslice_fits hg (hib ▸ hb); omega
  rcases isInt_of hni with ⟨e2, rfl⟩ | rfl <;>
    (simp [Builtin.append_, hu, hu2, hsz, hi, hz, hl, hn, h63', h48', Question.forced, hf, hfo, newRow, grownCap]
     congr 2
     apply Array.ext'
     simp [List.append_assoc])
theorem o_app {t t2 e sz by' m m2 d : Nat} {s x : Operand} {ty : TypeId} {pos : String} {af : Array Edge} {g : Option (Nat × Bool)} {v xv : Value} {cs ys : List Value} {z : List Seg} {R : List Asrt} {d2 : TypeDesc}
    [hu : TyU P t (.slice e)] [hu2 : TyU P t2 d2] (hni : isInt d2 = false) [hsz : TyS P e sz] [hby : TyB P e by'] [hz : TyZ P e z] (hs : ev E s = some v) (hx : ev E x = some xv) [p : PickW v L e sz m cs R] (src : Src P sz B R xv m2 ys)
    (hzs : Nat.beq (swidth z) sz = true) (hby0 : Nat.blt 0 by' = true) (hb : (m + m2) * by' ≤ 140737488355328) (hd : Nat.blt d n = true) (h : ∀ v', OneC v' → KGo W0 n K ((d, v') :: E) ds B (ow e sz v' (m + m2) (cs ++ ys) :: R)) :
    KGo W0 n (wo P ro ⟨some d, .call ⟨.builtin .append, #[s, x], #[t, t2]⟩, ty, pos, af, g⟩ K Q) E ds B L := fun a w ha hw => by
  have hw1 := hw.ent p.out
  have hd' := Nat.le_of_ble_eq_true hd
  have hb0 := Nat.le_of_ble_eq_true hby0
  have hzl : (flat z).length = sz := by rw [← swidth_eq hz.ok]; exact Nat.eq_of_beq_eq_true hzs
  obtain ⟨i, hi0, hib⟩ := hby.run w
  have hi : ∀ w, (typeInfo e).run P w = .ok i w := fun w' => by
    obtain ⟨j, hj, _⟩ := hby.run w'
    have h1 := hi0
    simp only [typeInfo, Sem.run_bind, run_program, Result.andThen_ok] at h1 hj ⊢
    cases hp : P.info? e with
    | none => rw [hp] at h1; simp at h1
    | some k => rw [hp] at h1; simp at h1; rw [h1]; rfl
  obtain ⟨zv, hz0, hzc⟩ := hz.run w
  have hzr : ∀ w, (zeroValue e).run P w = .ok zv w := fun w' => by
    have h1 := hz0
    simp only [zeroValue, Sem.run_bind, hi, Result.andThen_ok] at h1 ⊢
    cases hp : i.zero with
    | none => rw [hp] at h1; simp at h1
    | some k => rw [hp] at h1; simp at h1; rw [h1]; rfl
  have hrest : Holds W0 B R w := hw1.ent (Ent.drop _ _)
  have exec : ∀ r, (Builtin.append_ #[t, t2] ty #[v, xv]).run P w = r → (execOp a.eval ⟨some d, .call ⟨.builtin .append, #[s, x], #[t, t2]⟩, ty, pos, af, g⟩).run P w = r.andThen fun v w' => .ok (.value v) w' := fun r hr => by
    simp only [execOp, resolve, invoke, builtin, Sem.run_bind, Sem.run_pure, Result.andThen_ok, List.map_toArray, List.map_cons, List.map_nil, ha.eval hs, ha.eval hx, hr]
  -- a new row
  have grown : ∀ (base : Option Addr) (c : Nat), v = .slice base m c → c < m + m2 → cs.length = m * sz → (∀ u ∈ cs, u.oneCell' = true) → (Builtin.firstCells sz m (.slice base m c)).run P w.drew = .ok cs.toArray w.drew →
      Oper.wpIn (FR ro) 0 P ⟨some d, .call ⟨.builtin .append, #[s, x], #[t, t2]⟩, ty, pos, af, g⟩ a w K Q := fun base c hv hc hcl h1c hfo => by
    have hf := src.cells W0 w.drew hrest.drew
    have hr := run_app_grow (P := P) (ty := ty) hu.run hu2.run hni hsz.run hi hib hzr src.len hb hb0 hc hfo hf
    rw [← hv] at hr
    refine op_val (exec _ hr) (h _ ⟨rfl⟩ _ _ (ha.put hd' _) ?_)
    have hcap := grownCap_ge w (m + m2) c e
    have hnew := hrest.drew.alloc (.cells (cs.toArray ++ ys.toArray ++ Builtin.zeroCells zv.cells (grownCap w (m + m2) c e - (m + m2))) e)
    have hzone : ∀ u ∈ (Builtin.zeroCells zv.cells (grownCap w (m + m2) c e - (m + m2))).toList, u.oneCell' = true := fun u hu' => by
      simp only [Builtin.zeroCells, Array.toList_map, List.mem_map] at hu'
      obtain ⟨j, hj, rfl⟩ := hu'
      by_cases h0 : zv.cells.size = 0
      · rw [h0] at hj; simp at hj
      · have hlt : j % zv.cells.size < zv.cells.size := Nat.mod_lt _ (by omega)
        rw [getElem!_pos zv.cells _ hlt]
        have hall : ∀ u ∈ zv.cells.toList, u.oneCell' = true := by rw [hzc]; exact oks_mem hz.ok
        exact hall _ (by simp)
    have hlen : (cs ++ ys).length = (m + m2) * sz := by rw [List.length_append, hcl, src.size, Nat.add_mul]
    have hzsz : (Builtin.zeroCells zv.cells (grownCap w (m + m2) c e - (m + m2))).toList.length = (grownCap w (m + m2) c e - (m + m2)) * sz := by
      have : zv.cells.size = sz := by rw [hzc]; simpa using hzl
      simp [Builtin.zeroCells, this]
    have := hnew.ent (Ent.ow_row (e := e) (sz := sz) (b := w.heap.size) (m := m + m2) (cap := grownCap w (m + m2) c e) (cs := cs ++ ys) (sp := (Builtin.zeroCells zv.cells (grownCap w (m + m2) c e - (m + m2))).toList) hlen
      (by rw [List.length_append, hlen, hzsz, ← Nat.add_mul]; congr 1; omega) hcap (fun u hu' => by
        simp only [List.mem_append] at hu'
        rcases hu' with (hu' | hu') | hu'
        · exact h1c u hu'
        · exact src.one u hu'
        · exact hzone u hu') R |> fun x => by
          have e1 : (cs.toArray ++ ys.toArray ++ Builtin.zeroCells zv.cells (grownCap w (m + m2) c e - (m + m2))) = (cs ++ ys ++ (Builtin.zeroCells zv.cells (grownCap w (m + m2) c e - (m + m2))).toList).toArray := by
            rw [← Array.toList_inj]; simp
          rw [e1]; exact x)
    exact this
  rcases hw1.ow with ⟨rfl, rfl, rfl, hh⟩ | ⟨b, cap, sp, rfl, h1, h2, h3, h4, hh⟩
  · by_cases h0 : m2 = 0
    · subst h0
      have hys : ys = [] := List.eq_nil_of_length_eq_zero (by rw [src.size]; simp)
      subst hys
      exact op_val (exec _ (run_app_none hu.run hu2.run hni hsz.run src.len (src.cells W0 w hrest))) (h _ ⟨rfl⟩ _ w (ha.put hd' _) (hh.ent (Ent.ow_nil _ _ _)))
    · exact grown none 0 rfl (by omega) (by simp) (fun u hu' => by cases hu') rfl
  · by_cases hroom : m + m2 ≤ cap
    · have hfit : m * sz + ys.length ≤ (cs ++ sp).length := by rw [h2, src.size, ← Nat.add_mul]; exact Nat.mul_le_mul_right _ hroom
      obtain ⟨w', hr, hh'⟩ := run_put (P := P) (o := m * sz) ys 0 (cs ++ sp) w hh (by simpa using hfit) src.one
      refine op_val (exec _ (run_app_room hu.run hu2.run hni hsz.run src.len hroom (src.cells W0 w hrest) (by rw [Addr.add_eq, Nat.zero_add]; exact hr))) (h _ ⟨rfl⟩ _ w' (ha.put hd' _) ?_)
      have e1 : (cs ++ sp).take (m * sz + 0) ++ ys ++ (cs ++ sp).drop (m * sz + 0 + ys.length) = cs ++ ys ++ sp.drop ys.length := by
        rw [Nat.add_zero, ← h1, List.take_left, List.drop_append]
        simp
      rw [e1] at hh'
      refine hh'.ent (Ent.ow_row (by rw [List.length_append, h1, src.size, Nat.add_mul]) ?_ hroom (fun u hu' => ?_) R)
      · rw [← h2]
        simp only [List.length_append] at hfit ⊢
        simp only [List.length_drop]; omega
      · simp only [List.mem_append] at hu'
        rcases hu' with (hu' | hu') | hu'
        · exact h4 u (List.mem_append_left _ hu')
        · exact src.one u hu'
        · exact h4 u (List.mem_append_right _ (List.mem_of_mem_drop hu'))
    · refine grown _ cap rfl (by omega) h1 (fun u hu' => h4 u (List.mem_append_left _ hu')) ?_
      simp only [Builtin.firstCells]
      have hg := hh.drew.get
      have : (loadCells ⟨b, 0, none⟩ (m * sz)).run P w.drew = .ok (((cs ++ sp).toArray.toList.drop 0).take (m * sz)).toArray w.drew := run_loadCells' hg (by simp; omega)
      rw [this, ← h1]; simp
end
end Sc
