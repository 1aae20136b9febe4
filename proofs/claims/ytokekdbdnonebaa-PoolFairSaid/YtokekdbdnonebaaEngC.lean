/- One operation at a time: those that only hand back a value, and those that turn the world. -/
import Derived.Test.YtokekdbdnonebaaEngB
namespace Sc
open Go

/-! ### What the program's tables say of types and functions -/
class TyU (P : Program) (t : TypeId) (d : outParam TypeDesc) : Prop where
  run : ∀ w, (underlying t).run P w = .ok d w
class TyS (P : Program) (t : TypeId) (n : outParam Nat) : Prop where
  run : ∀ w, (Go.sizeOf t).run P w = .ok n w
class TyA (P : Program) (t : TypeId) (b : outParam Bool) : Prop where
  run : ∀ w, (isAgg t).run P w = .ok b w
class TyB (P : Program) (t : TypeId) (n : outParam Nat) : Prop where
  run : ∀ w, ∃ i, (typeInfo t).run P w = .ok i w ∧ i.bytes = n
class TyZ (P : Program) (t : TypeId) (z : outParam (List Seg)) : Prop where
  run : ∀ w, ∃ v, (zeroValue t).run P w = .ok v w ∧ v.cells = (flat z).toArray
  ok : oks z
class FnC (P : Program) (f : FuncId) : Prop where
  run : ∀ args w, (callFunc f args).run P w = .ok (.enter f args) w

section
variable {P : Program} {ro : Option Nat} {Q : Exit → Act → World → Prop} {W0 : World} {n : Nat} {K : Act → World → Prop} {E : Env} {ds : List Deferred} {B : PH} {L : List Asrt}

/-! ### The ground -/
/-- One operation, and what is asked behind it. -/
abbrev wo (P : Program) (ro : Option Nat) (o : Oper) (K : Act → World → Prop) (Q : Exit → Act → World → Prop) : Act → World → Prop := fun a w => o.wpIn (FR ro) 0 P a w K Q
/-- Is an operation's guard met? -/
def gok (ops : Array Oper) (E : Env) : Option (Nat × Bool) → Option Bool
  | none => some true
  | some (j, want) => match (ops[j]?).bind (·.dst) with
    | some t => match look E t with
      | some (.bool b) => some (b == want)
      | some (.tuple _) => some false
      | _ => none
    | none => none
theorem gok_wanted {ops : Array Oper} {o : Oper} {a : Act} {b : Bool} (h : gok ops E o.guard = some b) (hk : Knows n E ds a) : Region.wanted o (yielded ops a.tmps) = b := by
  unfold Region.wanted
  cases hg : o.guard with
  | none => rw [hg] at h; simp only [gok, Option.some.injEq] at h; exact h
  | some p =>
    obtain ⟨j, want⟩ := p
    rw [hg] at h
    simp only [gok] at h
    split at h
    · rename_i t ht
      dsimp only
      unfold yielded
      rw [ht, Option.bind_some]
      split at h
      · rename_i b' hb
        rw [hk.env _ _ hb]
        simp only [Option.some.injEq] at h
        cases b' <;> cases want <;> simp_all
      · rename_i vs hb
        rw [hk.env _ _ hb]
        simpa using h
      · cases h
    · cases h
def dok (n : Nat) : Option Nat → Bool
  | none => true
  | some d => Nat.blt d n
theorem dok_lt {d : Option Nat} (h : dok n d = true) : ∀ t, d = some t → t < n := fun t e => by
  subst e
  exact Nat.le_of_ble_eq_true h
theorem about_any (o : Oper) (w : World) (ρ : Operand → Value) : ∀ f, o.about P w ρ = some f → (FR ro).fn f := fun _ _ => trivial

theorem n_op {ops : Array Oper} {o : Oper} {rest : List Oper} (hg : gok ops E o.guard = some true) (h : KGo W0 n (wo P ro o (wl P ro ops rest Q) Q) E ds B L) : KGo W0 n (wl P ro ops (o :: rest) Q) E ds B L :=
  fun a w ha hw => wpListIn_step fun K hK => by
    rw [if_pos (gok_wanted hg ha)]
    exact Oper.wpIn_mono (fun a w h => hK a w h) (h a w ha hw)
theorem n_no {ops : Array Oper} {rest : List Oper} {d : Nat} {op : Op} {ty : TypeId} {pos : String} {af : Array Edge} {g : Option (Nat × Bool)} (hg : gok ops E g = some false) (hd : Nat.blt d n = true)
    (h : KGo W0 n (wl P ro ops rest Q) ((d, undef) :: E) ds B L) : KGo W0 n (wl P ro ops (⟨some d, op, ty, pos, af, g⟩ :: rest) Q) E ds B L :=
  fun a w ha hw => wpListIn_step fun K hK => by
    rw [if_neg (by rw [gok_wanted (o := ⟨some d, op, ty, pos, af, g⟩) hg ha]; simp)]
    exact ⟨about_any _ _ _, hK _ _ (h _ w (ha.put (Nat.le_of_ble_eq_true hd) _) hw)⟩

/-- The operation yields v and leaves the world alone. -/
def Yld (P : Program) (op : Op) (ty : TypeId) (E : Env) (B : PH) (L : List Asrt) (v : Value) : Prop :=
  ∀ (W0 : World) (n : Nat) (ds : List Deferred) (a : Act) (w : World) (dst : Option Tmp) (pos : String) (af : Array Edge) (g : Option (Nat × Bool)), Knows n E ds a → Holds W0 B L w →
    (execOp a.eval ⟨dst, op, ty, pos, af, g⟩).run P w = .ok (.value v) w

theorem semAt_val {o : Oper} {ρ : Operand → Value} {w w' : World} {x : Next} (h : (execOp ρ o).run P w = .ok x w') (hx : ∀ d, x ≠ .defer d) : (o.semAt ro ρ).run P w = .ok x w' := by
  have : ∀ c, o.op ≠ .defer c := by
    intro c hc
    unfold execOp at h
    rw [hc] at h
    simp only [Sem.run_bind, Sem.run_pure] at h
    cases hr : (resolve ρ c o.type).run P w with
    | ok d w1 => rw [hr] at h; simp only [Result.andThen_ok, Result.ok.injEq] at h; exact hx d h.1.symm
    | halt x w1 => rw [hr] at h; simp at h
  rw [Oper.semAt_eq _ _ _ this]; exact h
theorem op_val {o : Oper} {a : Act} {w w' : World} {v : Value} (h : (execOp a.eval o).run P w = .ok (.value v) w') (hk : K (a.put o.dst v) w') : o.wpIn (FR ro) 0 P a w K Q := by
  refine ⟨about_any _ _ _, ?_⟩
  rw [semAt_val h (fun d e => by cases e)]
  exact hk
theorem op_skip {o : Oper} {a : Act} {w w' : World} (h : (execOp a.eval o).run P w = .ok .skip w') (hk : K (a.put o.dst undef) w') : o.wpIn (FR ro) 0 P a w K Q := by
  refine ⟨about_any _ _ _, ?_⟩
  rw [semAt_val h (fun d e => by cases e)]
  exact hk
theorem op_enter {o : Oper} {a : Act} {w w' : World} {f : FuncId} {args : Array Value} (h : (execOp a.eval o).run P w = .ok (.enter f args) w')
    (hc : CallsIn (FR none) 0 P f args w' fun e w'' => ∃ v, e = .returned v ∧ K (a.put o.dst v) w'') : o.wpIn (FR ro) 0 P a w K Q := by
  refine ⟨about_any _ _ _, ?_⟩
  rw [semAt_val h (fun d e => by cases e)]
  refine ⟨fun h => (by cases h), ?_⟩
  have hc' : CallsIn (FR ro) 0 P f args w' fun e w'' => ∃ v, e = .returned v ∧ K (a.put o.dst v) w'' := hc
  exact hc'.mono fun e w'' ⟨v, he, hk⟩ => by subst he; exact hk
theorem n_y {ops : Array Oper} {rest : List Oper} {d : Nat} {op : Op} {ty : TypeId} {pos : String} {af : Array Edge} {g : Option (Nat × Bool)} {v : Value} (hg : gok ops E g = some true) (hy : Yld P op ty E B L v) (hd : Nat.blt d n = true)
    (h : KGo W0 n (wl P ro ops rest Q) ((d, v) :: E) ds B L) : KGo W0 n (wl P ro ops (⟨some d, op, ty, pos, af, g⟩ :: rest) Q) E ds B L :=
  n_op hg fun a w ha hw => op_val (hy W0 n ds a w _ _ _ _ ha hw) (h _ w (ha.put (Nat.le_of_ble_eq_true hd) v) hw)

/-- A truth that was just found, parted. -/
theorem k_dec {t : Nat} {p : Prop} {dp : Decidable p} (h1 : p → KGo W0 n K ((t, .bool true) :: E) ds B L) (h2 : ¬ p → KGo W0 n K ((t, .bool false) :: E) ds B L) : KGo W0 n K ((t, .bool (@decide p dp)) :: E) ds B L := by
  by_cases h : p
  · rw [decide_eq_true h]; exact h1 h
  · rw [decide_eq_false h]; exact h2 h

/-! ### Operations that hand back a value -/
theorem y_mv {x : Operand} {ty : TypeId} {v : Value} (hx : ev E x = some v) : Yld P (.move x) ty E B L v := fun _ _ _ a w _ _ _ _ ha _ => by
  simp only [execOp, ha.eval hx, Sem.run_pure]
theorem y_as {x : Operand} {ty : TypeId} {v : Value} (hx : ev E x = some v) : Yld P (.assign x) ty E B L v := fun _ _ _ a w _ _ _ _ ha _ => by
  simp only [execOp, ha.eval hx, Sem.run_pure]
theorem y_pt {c x y : Operand} {ty : TypeId} {v : Value} (hc : ev E c = some (.bool true)) (hx : ev E x = some v) : Yld P (.pick c x y) ty E B L v := fun _ _ _ a w _ _ _ _ ha _ => by
  simp [execOp, ha.eval hc, ha.eval hx, asBool]
theorem y_pf {c x y : Operand} {ty : TypeId} {v : Value} (hc : ev E c = some (.bool false)) (hy : ev E y = some v) : Yld P (.pick c x y) ty E B L v := fun _ _ _ a w _ _ _ _ ha _ => by
  simp [execOp, ha.eval hc, ha.eval hy, asBool]
theorem y_nil {x : Operand} {ty : TypeId} {ad : Addr} (hx : ev E x = some (.pointer (some ad))) : Yld P (.nilCheck x) ty E B L (.pointer (some ad)) := fun _ _ _ a w _ _ _ _ ha _ => by
  simp [execOp, ha.eval hx]
theorem y_not {x : Operand} {t ty : TypeId} {p : Prop} {dp : Decidable p} (hx : ev E x = some (.bool (@decide p dp))) : Yld P (.unOp .not t x) ty E B L (.bool (decide (¬ p))) := fun _ _ _ a w _ _ _ _ ha _ => by
  simp [execOp, ha.eval hx, Op.unary]
theorem y_notb {x : Operand} {t ty : TypeId} {b : Bool} (hx : ev E x = some (.bool b)) : Yld P (.unOp .not t x) ty E B L (.bool (!b)) := fun _ _ _ a w _ _ _ _ ha _ => by
  simp [execOp, ha.eval hx, Op.unary]

section ints
variable {x y : Operand} {t t' ty : TypeId} {k : IntKind} {m q : Int}
theorem run_bin {op : BinOp} {a : Act} {w : World} {dst : Option Tmp} {pos : String} {af : Array Edge} {g : Option (Nat × Bool)} (hx : a.eval x = .int k m) (hy : a.eval y = .int k q) :
    (execOp a.eval ⟨dst, .binOp op t x y t', ty, pos, af, g⟩).run P w = ((binOp op t (.int k m) (.int k q)).run P w).andThen fun v w' => .ok (.value v) w' := by
  simp only [execOp, hx, hy, Sem.run_bind]
  have : (eqGuard op t x y (.int k m) (.int k q)).run P w = .ok () w := by
    unfold eqGuard
    cases op <;> simp
  rw [this]
  simp only [Result.andThen_ok, Sem.run_pure]
theorem y_addw (hx : ev E x = some (.int k m)) (hy : ev E y = some (.int k q)) : Yld P (.binOp .add t x y t') ty E B L (.int k (k.wrap (m + q))) := fun _ _ _ a w _ _ _ _ ha _ => by
  rw [run_bin (ha.eval hx) (ha.eval hy)]; simp [binOp, Op.intArith]
theorem y_subw (hx : ev E x = some (.int k m)) (hy : ev E y = some (.int k q)) : Yld P (.binOp .sub t x y t') ty E B L (.int k (k.wrap (m - q))) := fun _ _ _ a w _ _ _ _ ha _ => by
  rw [run_bin (ha.eval hx) (ha.eval hy)]; simp [binOp, Op.intArith]
theorem y_mulw (hx : ev E x = some (.int k m)) (hy : ev E y = some (.int k q)) : Yld P (.binOp .mul t x y t') ty E B L (.int k (k.wrap (m * q))) := fun _ _ _ a w _ _ _ _ ha _ => by
  rw [run_bin (ha.eval hx) (ha.eval hy)]; simp [binOp, Op.intArith]
theorem wrap64 {x : Int} (h : -9223372036854775808 ≤ x ∧ x ≤ 9223372036854775807) : IntKind.i64.wrap x = x := by
  obtain ⟨h1, h2⟩ := h
  unfold IntKind.wrap
  simp only [IntKind.bits, IntKind.signed, Bool.true_and, show (64 : Nat) - 1 = 63 from rfl, show (2 : Int) ^ 64 = 18446744073709551616 from by decide, show (2 : Int) ^ 63 = 9223372036854775808 from by decide]
  split
  · rename_i h; simp only [ge_iff_le, decide_eq_true_eq] at h; omega
  · rename_i h; simp only [ge_iff_le, decide_eq_true_eq] at h; omega
theorem y_add (hx : ev E x = some (.int .i64 m)) (hy : ev E y = some (.int .i64 q)) (hb : -9223372036854775808 ≤ m + q ∧ m + q ≤ 9223372036854775807) : Yld P (.binOp .add t x y t') ty E B L (.int .i64 (m + q)) := by
  have := y_addw (P := P) (t := t) (t' := t') (ty := ty) (B := B) (L := L) hx hy; rwa [wrap64 hb] at this
theorem y_sub (hx : ev E x = some (.int .i64 m)) (hy : ev E y = some (.int .i64 q)) (hb : -9223372036854775808 ≤ m - q ∧ m - q ≤ 9223372036854775807) : Yld P (.binOp .sub t x y t') ty E B L (.int .i64 (m - q)) := by
  have := y_subw (P := P) (t := t) (t' := t') (ty := ty) (B := B) (L := L) hx hy; rwa [wrap64 hb] at this
theorem y_mul (hx : ev E x = some (.int .i64 m)) (hy : ev E y = some (.int .i64 q)) (hb : -9223372036854775808 ≤ m * q ∧ m * q ≤ 9223372036854775807) : Yld P (.binOp .mul t x y t') ty E B L (.int .i64 (m * q)) := by
  have := y_mulw (P := P) (t := t) (t' := t') (ty := ty) (B := B) (L := L) hx hy; rwa [wrap64 hb] at this
theorem y_quo (hx : ev E x = some (.int .i64 m)) (hy : ev E y = some (.int .i64 q)) (h0 : 0 ≤ m) (hq : 0 < q) (hb : m ≤ 9223372036854775807) : Yld P (.binOp .quo t x y t') ty E B L (.int .i64 (m / q)) := fun _ _ _ a w _ _ _ _ ha _ => by
  rw [run_bin (ha.eval hx) (ha.eval hy)]
  have e : m.tdiv q = m / q := Int.tdiv_eq_ediv_of_nonneg h0
  have h1 : 0 ≤ m / q := Int.ediv_nonneg h0 (Int.le_of_lt hq)
  have h2 : m / q ≤ m := Int.ediv_le_self _ h0
  simp [binOp, Op.intDiv, show q ≠ 0 by omega, e, wrap64 (x := m / q) ⟨by omega, by omega⟩]
theorem y_rem (hx : ev E x = some (.int k m)) (hy : ev E y = some (.int k q)) (h0 : 0 ≤ m) (hq : 0 < q) : Yld P (.binOp .rem t x y t') ty E B L (.int k (m % q)) := fun _ _ _ a w _ _ _ _ ha _ => by
  rw [run_bin (ha.eval hx) (ha.eval hy)]
  simp [binOp, Op.intDiv, show q ≠ 0 by omega, Int.tmod_eq_emod_of_nonneg h0]
theorem y_lt (hx : ev E x = some (.int k m)) (hy : ev E y = some (.int k q)) : Yld P (.binOp .lss t x y t') ty E B L (.bool (decide (m < q))) := fun _ _ _ a w _ _ _ _ ha _ => by
  rw [run_bin (ha.eval hx) (ha.eval hy)]; simp [binOp, Op.intCmp]
theorem y_le (hx : ev E x = some (.int k m)) (hy : ev E y = some (.int k q)) : Yld P (.binOp .leq t x y t') ty E B L (.bool (decide (m ≤ q))) := fun _ _ _ a w _ _ _ _ ha _ => by
  rw [run_bin (ha.eval hx) (ha.eval hy)]; simp [binOp, Op.intCmp]
theorem y_gt (hx : ev E x = some (.int k m)) (hy : ev E y = some (.int k q)) : Yld P (.binOp .gtr t x y t') ty E B L (.bool (decide (m > q))) := fun _ _ _ a w _ _ _ _ ha _ => by
  rw [run_bin (ha.eval hx) (ha.eval hy)]; simp [binOp, Op.intCmp]
theorem y_ge (hx : ev E x = some (.int k m)) (hy : ev E y = some (.int k q)) : Yld P (.binOp .geq t x y t') ty E B L (.bool (decide (m ≥ q))) := fun _ _ _ a w _ _ _ _ ha _ => by
  rw [run_bin (ha.eval hx) (ha.eval hy)]; simp [binOp, Op.intCmp]
theorem y_eq (hx : ev E x = some (.int k m)) (hy : ev E y = some (.int k q)) : Yld P (.binOp .eql t x y t') ty E B L (.bool (decide (m = q))) := fun _ _ _ a w _ _ _ _ ha _ => by
  rw [run_bin (ha.eval hx) (ha.eval hy)]
  have : (m == q) = decide (m = q) := by rw [Bool.eq_iff_iff]; simp
  simp [binOp, Op.intCmp, this]
theorem y_ne (hx : ev E x = some (.int k m)) (hy : ev E y = some (.int k q)) : Yld P (.binOp .neq t x y t') ty E B L (.bool (decide (m ≠ q))) := fun _ _ _ a w _ _ _ _ ha _ => by
  rw [run_bin (ha.eval hx) (ha.eval hy)]
  have : (m != q) = decide (m ≠ q) := by rw [Bool.eq_iff_iff]; simp
  simp [binOp, Op.intCmp, this]
end ints

end
end Sc
