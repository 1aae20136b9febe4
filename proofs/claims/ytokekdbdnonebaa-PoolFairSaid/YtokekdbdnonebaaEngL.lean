/- More operations: bits and machine words, comparisons of arrays, slices that are built, rows that are written. -/
import Derived.Test.YtokekdbdnonebaaEngK
import Derived.Laws.StructEq
import Derived.Laws.Cover3
namespace Sc
open Go

section
variable {P : Program} {ro : Option Nat} {Q : Exit → Act → World → Prop} {W0 : World} {n : Nat} {K : Act → World → Prop} {E : Env} {ds : List Deferred} {B : PH} {L : List Asrt}

/-! ### Machine words -/
def cW (x : UInt32) : Value := .int .u32 (x.toNat : Int)
def cWs (l : List UInt32) : List Value := l.map cW
theorem cWs_length (l : List UInt32) : (cWs l).length = l.length := by simp [cWs]
theorem cWs_one (l : List UInt32) : ∀ v ∈ cWs l, v.oneCell' = true := fun v hv => by
  obtain ⟨x, _, rfl⟩ := List.mem_map.1 hv; rfl
instance (x : UInt32) : OneC (cW x) := ⟨rfl⟩
instance (x : UInt8) : OneC (cB x) := ⟨rfl⟩
theorem wrapU (k : IntKind) (hk : k.signed = false) (x : Int) : k.wrap x = x % 2 ^ k.bits := by
  unfold IntKind.wrap; simp [hk]
theorem wrap_u32 (m : Nat) : IntKind.u32.wrap (m : Int) = ((m % 4294967296 : Nat) : Int) := by
  rw [wrapU _ rfl]; rfl
theorem wrap_u8 (m : Nat) : IntKind.u8.wrap (m : Int) = ((m % 256 : Nat) : Int) := by
  rw [wrapU _ rfl]; rfl
theorem wrap_u64 (m : Nat) : IntKind.u64.wrap (m : Int) = ((m % 18446744073709551616 : Nat) : Int) := by
  rw [wrapU _ rfl]; rfl
theorem wrapN64 {m : Nat} (h : m ≤ 9223372036854775807) : IntKind.i64.wrap (m : Int) = (m : Int) := wrap64 (by omega)

section ints
variable {x y : Operand} {t t' ty : TypeId} {k k' : IntKind} {m q : Int}
theorem y_bits {op : BinOp} (hop : op = .and ∨ op = .or ∨ op = .xor) (hx : ev E x = some (.int k m)) (hy : ev E y = some (.int k q)) :
    Yld P (.binOp op t x y t') ty E B L (.int k (k.wrap ((match op with
      | .and => BitVec.ofInt k.bits m &&& BitVec.ofInt k.bits q
      | .or => BitVec.ofInt k.bits m ||| BitVec.ofInt k.bits q
      | _ => BitVec.ofInt k.bits m ^^^ BitVec.ofInt k.bits q).toNat : Int))) := fun _ _ _ a w _ _ _ _ ha _ => by
  rw [run_bin (ha.eval hx) (ha.eval hy)]
  rcases hop with rfl | rfl | rfl <;> simp [binOp, Op.intBits]
theorem ofInt_nat (b m : Nat) : BitVec.ofInt b (m : Int) = BitVec.ofNat b m := by simp
theorem and_val {k : IntKind} (m q : Nat) (hm : m < 2 ^ k.bits) (hq : q < 2 ^ k.bits) : (BitVec.ofInt k.bits (m : Int) &&& BitVec.ofInt k.bits (q : Int)).toNat = m &&& q := by
  rw [ofInt_nat, ofInt_nat, BitVec.toNat_and, BitVec.toNat_ofNat, BitVec.toNat_ofNat, Nat.mod_eq_of_lt hm, Nat.mod_eq_of_lt hq]
theorem or_val {k : IntKind} (m q : Nat) (hm : m < 2 ^ k.bits) (hq : q < 2 ^ k.bits) : (BitVec.ofInt k.bits (m : Int) ||| BitVec.ofInt k.bits (q : Int)).toNat = m ||| q := by
  rw [ofInt_nat, ofInt_nat, BitVec.toNat_or, BitVec.toNat_ofNat, BitVec.toNat_ofNat, Nat.mod_eq_of_lt hm, Nat.mod_eq_of_lt hq]
theorem xor_val {k : IntKind} (m q : Nat) (hm : m < 2 ^ k.bits) (hq : q < 2 ^ k.bits) : (BitVec.ofInt k.bits (m : Int) ^^^ BitVec.ofInt k.bits (q : Int)).toNat = m ^^^ q := by
  rw [ofInt_nat, ofInt_nat, BitVec.toNat_xor, BitVec.toNat_ofNat, BitVec.toNat_ofNat, Nat.mod_eq_of_lt hm, Nat.mod_eq_of_lt hq]
theorem lt32 (a : UInt32) : a.toNat < 2 ^ IntKind.u32.bits := a.toBitVec.isLt
theorem mod32 (a : UInt32) : a.toNat % 4294967296 = a.toNat := Nat.mod_eq_of_lt a.toBitVec.isLt
theorem y_andW {a b : UInt32} (hx : ev E x = some (cW a)) (hy : ev E y = some (cW b)) : Yld P (.binOp .and t x y t') ty E B L (cW (a &&& b)) := by
  have := y_bits (P := P) (t := t) (t' := t') (ty := ty) (B := B) (L := L) (op := .and) (.inl rfl) hx hy
  simp only [and_val a.toNat b.toNat (lt32 a) (lt32 b), wrap_u32] at this
  rw [show (a.toNat &&& b.toNat) = (a &&& b).toNat from (UInt32.toNat_and a b).symm, mod32] at this
  exact this
theorem y_orW {a b : UInt32} (hx : ev E x = some (cW a)) (hy : ev E y = some (cW b)) : Yld P (.binOp .or t x y t') ty E B L (cW (a ||| b)) := by
  have := y_bits (P := P) (t := t) (t' := t') (ty := ty) (B := B) (L := L) (op := .or) (.inr (.inl rfl)) hx hy
  simp only [or_val a.toNat b.toNat (lt32 a) (lt32 b), wrap_u32] at this
  rw [show (a.toNat ||| b.toNat) = (a ||| b).toNat from (UInt32.toNat_or a b).symm, mod32] at this
  exact this
theorem y_xorW {a b : UInt32} (hx : ev E x = some (cW a)) (hy : ev E y = some (cW b)) : Yld P (.binOp .xor t x y t') ty E B L (cW (a ^^^ b)) := by
  have := y_bits (P := P) (t := t) (t' := t') (ty := ty) (B := B) (L := L) (op := .xor) (.inr (.inr rfl)) hx hy
  simp only [xor_val a.toNat b.toNat (lt32 a) (lt32 b), wrap_u32] at this
  rw [show (a.toNat ^^^ b.toNat) = (a ^^^ b).toNat from (UInt32.toNat_xor a b).symm, mod32] at this
  exact this
theorem y_addW {a b : UInt32} (hx : ev E x = some (cW a)) (hy : ev E y = some (cW b)) : Yld P (.binOp .add t x y t') ty E B L (cW (a + b)) := by
  have := y_addw (P := P) (t := t) (t' := t') (ty := ty) (B := B) (L := L) hx hy
  rw [show ((a.toNat : Int) + (b.toNat : Int)) = ((a.toNat + b.toNat : Nat) : Int) by simp, wrap_u32] at this
  rw [show (a.toNat + b.toNat) % 4294967296 = (a + b).toNat from (UInt32.toNat_add a b).symm] at this
  exact this
theorem y_shift {op : BinOp} {m : Int} {s : Nat} (hop : op = .shl ∨ op = .shr) (hx : ev E x = some (.int k m)) (hy : ev E y = some (.int k' (s : Int))) :
    Yld P (.binOp op t x y t') ty E B L (.int k (match op with
      | .shl => k.wrap (m * 2 ^ min s k.bits)
      | _ => m.fdiv (2 ^ min s k.bits))) := fun _ _ _ a w _ _ _ _ ha _ => by
  have hg : ∀ u v, (eqGuard op t x y (.int k u) (.int k' v)).run P w = .ok () w := fun u v => by
    unfold eqGuard
    rcases hop with rfl | rfl <;> simp
  simp only [execOp, ha.eval hx, ha.eval hy, Sem.run_bind, hg, Result.andThen_ok]
  have h0 : ¬ ((s : Int) < 0) := by omega
  rcases hop with rfl | rfl <;> simp [binOp, Op.shift, h0]
theorem fdiv_nat (m s : Nat) : Int.fdiv (m : Int) (2 ^ s) = ((m / 2 ^ s : Nat) : Int) := by
  rw [Int.fdiv_eq_ediv_of_nonneg _ (by exact_mod_cast Nat.zero_le (2 ^ s))]
  exact_mod_cast rfl
/-- Shifts of what is not negative. -/
theorem y_shrN {m s : Nat} (hx : ev E x = some (.int k (m : Int))) (hy : ev E y = some (.int k' (s : Int))) (hs : s ≤ k.bits) : Yld P (.binOp .shr t x y t') ty E B L (.int k ((m / 2 ^ s : Nat) : Int)) := by
  have := y_shift (P := P) (t := t) (t' := t') (ty := ty) (B := B) (L := L) (op := .shr) (.inr rfl) hx hy
  simp only [Nat.min_eq_left hs, fdiv_nat] at this
  exact this
theorem y_shlN {m s : Nat} (hx : ev E x = some (.int .i64 (m : Int))) (hy : ev E y = some (.int k' (s : Int))) (hs : s ≤ 64) (hb : m * 2 ^ s ≤ 9223372036854775807) : Yld P (.binOp .shl t x y t') ty E B L (.int .i64 ((m * 2 ^ s : Nat) : Int)) := by
  have := y_shift (P := P) (t := t) (t' := t') (ty := ty) (B := B) (L := L) (op := .shl) (.inl rfl) hx hy
  simp only [Nat.min_eq_left (show s ≤ IntKind.i64.bits from hs)] at this
  rw [show ((m : Int) * 2 ^ s) = ((m * 2 ^ s : Nat) : Int) by push_cast; rfl, wrapN64 hb] at this
  exact this
theorem y_andN {m q : Nat} (hx : ev E x = some (.int .i64 (m : Int))) (hy : ev E y = some (.int .i64 (q : Int))) (hm : m ≤ 9223372036854775807) (hq : q ≤ 9223372036854775807) : Yld P (.binOp .and t x y t') ty E B L (.int .i64 ((m &&& q : Nat) : Int)) := by
  have := y_bits (P := P) (t := t) (t' := t') (ty := ty) (B := B) (L := L) (op := .and) (.inl rfl) hx hy
  have e := and_val (k := .i64) m q (by show m < 2 ^ 64; omega) (by show q < 2 ^ 64; omega)
  simp only [e] at this
  rwa [wrapN64 (by have := Nat.and_le_left (n := m) (m := q); omega)] at this
theorem y_orN {m q : Nat} (hx : ev E x = some (.int .i64 (m : Int))) (hy : ev E y = some (.int .i64 (q : Int))) (hm : m < 9223372036854775808) (hq : q < 9223372036854775808) : Yld P (.binOp .or t x y t') ty E B L (.int .i64 ((m ||| q : Nat) : Int)) := by
  have := y_bits (P := P) (t := t) (t' := t') (ty := ty) (B := B) (L := L) (op := .or) (.inr (.inl rfl)) hx hy
  have e := or_val (k := .i64) m q (by show m < 2 ^ 64; omega) (by show q < 2 ^ 64; omega)
  simp only [e] at this
  rwa [wrapN64 (by have := Nat.or_lt_two_pow (n := 63) (x := m) (y := q) (by omega) (by omega); omega)] at this
theorem y_shlW {a : UInt32} {s : Nat} (hx : ev E x = some (cW a)) (hy : ev E y = some (.int k' (s : Int))) (hs : s < 32) : Yld P (.binOp .shl t x y t') ty E B L (cW (a <<< UInt32.ofNat s)) := by
  have := y_shift (P := P) (t := t) (t' := t') (ty := ty) (B := B) (L := L) (op := .shl) (.inl rfl) hx hy
  simp only [Nat.min_eq_left (show s ≤ IntKind.u32.bits from Nat.le_of_lt hs)] at this
  rw [show ((a.toNat : Int) * 2 ^ s) = ((a.toNat * 2 ^ s : Nat) : Int) by push_cast; rfl, wrap_u32] at this
  rw [show a.toNat * 2 ^ s % 4294967296 = (a <<< UInt32.ofNat s).toNat by
    rw [UInt32.toNat_shiftLeft, Nat.shiftLeft_eq, UInt32.toNat_ofNat_of_lt' (by show s < 4294967296; omega), Nat.mod_eq_of_lt hs]] at this
  exact this
theorem y_shrW {a : UInt32} {s : Nat} (hx : ev E x = some (cW a)) (hy : ev E y = some (.int k' (s : Int))) (hs : s < 32) : Yld P (.binOp .shr t x y t') ty E B L (cW (a >>> UInt32.ofNat s)) := by
  have := y_shrN (P := P) (t := t) (t' := t') (ty := ty) (B := B) (L := L) (k := .u32) hx hy (Nat.le_of_lt hs)
  rw [show a.toNat / 2 ^ s = (a >>> UInt32.ofNat s).toNat by
    rw [UInt32.toNat_shiftRight, Nat.shiftRight_eq_div_pow, UInt32.toNat_ofNat_of_lt' (by show s < 4294967296; omega), Nat.mod_eq_of_lt hs]] at this
  exact this
/-- Conversions between kinds. -/
theorem y_cvBW {s t : TypeId} {b : UInt8} {d : TypeDesc} [TyU P s d] [TyU P t (.int .u32)] (hx : ev E x = some (cB b)) : Yld P (.convert s t x) ty E B L (cW b.toUInt32) := by
  have := y_cv (P := P) (s := s) (t := t) (ty := ty) (B := B) (L := L) (k := .u32) hx
  have hb : b.toNat < 256 := b.toBitVec.isLt
  rw [wrap_u32, Nat.mod_eq_of_lt (by omega)] at this
  exact this
theorem y_cvWB {s t : TypeId} {a : UInt32} {d : TypeDesc} [TyU P s d] [TyU P t (.int .u8)] (hx : ev E x = some (cW a)) : Yld P (.convert s t x) ty E B L (cB a.toUInt8) := by
  have := y_cv (P := P) (s := s) (t := t) (ty := ty) (B := B) (L := L) (k := .u8) hx
  rw [wrap_u8, show a.toNat % 256 = a.toUInt8.toNat from (UInt32.toNat_toUInt8 a).symm] at this
  exact this
theorem y_cvNB {s t : TypeId} {m : Nat} {d : TypeDesc} [TyU P s d] [TyU P t (.int .u8)] (hx : ev E x = some (.int k (m : Int))) : Yld P (.convert s t x) ty E B L (cB (UInt8.ofNat m)) := by
  have := y_cv (P := P) (s := s) (t := t) (ty := ty) (B := B) (L := L) (k := .u8) hx
  rw [wrap_u8] at this
  have e : cB (UInt8.ofNat m) = .int .u8 ((m % 256 : Nat) : Int) := by simp [cB]
  rw [e]; exact this
theorem y_cvBN {s t : TypeId} {b : UInt8} {d : TypeDesc} [TyU P s d] [TyU P t (.int .i64)] (hx : ev E x = some (cB b)) : Yld P (.convert s t x) ty E B L (.int .i64 (b.toNat : Int)) := by
  have := y_cv (P := P) (s := s) (t := t) (ty := ty) (B := B) (L := L) (k := .i64) hx
  rwa [wrapN64 (by have := b.toBitVec.isLt; have h2 : b.toNat < 256 := this; omega)] at this
/-- A byte compared with a byte. -/
theorem y_eqB {a b : UInt8} (hx : ev E x = some (cB a)) (hy : ev E y = some (cB b)) : Yld P (.binOp .eql t x y t') ty E B L (.bool (decide (a = b))) := by
  have := y_eq (P := P) (t := t) (t' := t') (ty := ty) (B := B) (L := L) hx hy
  have e : decide ((a.toNat : Int) = (b.toNat : Int)) = decide (a = b) := by
    rw [decide_eq_decide]; constructor
    · intro h; exact UInt8.toNat_inj.1 (by omega)
    · intro h; rw [h]
  rwa [e] at this
end ints

/-! ### Nil -/
theorem TyU.get {t : TypeId} {d : TypeDesc} (h : TyU P t d) : P.underlying t = some d := by
  have w : World := default
  have h1 := h.run w
  simp only [underlying, Sem.run_bind, run_program, Result.andThen_ok] at h1
  cases hp : P.underlying t with
  | none => rw [hp] at h1; simp at h1
  | some e => rw [hp] at h1; simp at h1; rw [h1]
theorem eqGuard_no {op : BinOp} {t : TypeId} {x y : Operand} {a b : Value} {w : World} (h : ∀ c d, a ≠ .agg c ∨ b ≠ .agg d) (h2 : a ≠ .nilIface) : (eqGuard op t x y a b).run P w = .ok () w := by
  unfold eqGuard
  cases op <;> (try rfl) <;> (cases a <;> (try rfl) <;> cases b <;> (try rfl)) <;> first
    | exact absurd rfl h2
    | (rename_i c d; rcases h c d with h | h <;> exact absurd rfl h)
theorem run_eqp (d : Nat) {t e : TypeId} {a : Option Addr} (w : World) (hu : P.underlying t = some (.pointer e)) : (Op.equalIn (d + 1) t (.pointer a) (.pointer none)).run P w = .ok a.isNone w := by
  cases a <;> simp [Op.equalIn, run_underlying hu]
theorem y_eqnil {t t' ty e : TypeId} {x y : Operand} {a : Option Addr} {m c : Nat} [hu : TyU P t (.slice e)] (hx : ev E x = some (.slice a m c)) (hy : ev E y = some (.slice none 0 0)) : Yld P (.binOp .eql t x y t') ty E B L (.bool a.isNone) := fun _ _ _ ac w _ _ _ _ ha _ => by
  simp only [execOp, ha.eval hx, ha.eval hy, Sem.run_bind]
  rw [eqGuard_no (by simp) (by simp)]
  simp only [Result.andThen_ok, binOp, Sem.run_bind, run_equal_slice_nil w t e a m c hu.get, Sem.run_pure]
theorem y_nenil {t t' ty e : TypeId} {x y : Operand} {a : Option Addr} {m c : Nat} [hu : TyU P t (.slice e)] (hx : ev E x = some (.slice a m c)) (hy : ev E y = some (.slice none 0 0)) : Yld P (.binOp .neq t x y t') ty E B L (.bool (!a.isNone)) := fun _ _ _ ac w _ _ _ _ ha _ => by
  simp only [execOp, ha.eval hx, ha.eval hy, Sem.run_bind]
  rw [eqGuard_no (by simp) (by simp)]
  simp only [Result.andThen_ok, binOp, Sem.run_bind, run_equal_slice_nil w t e a m c hu.get, Sem.run_pure]
theorem y_eqpnil {t t' ty e : TypeId} {x y : Operand} {a : Option Addr} [hu : TyU P t (.pointer e)] (hx : ev E x = some (.pointer a)) (hy : ev E y = some (.pointer none)) : Yld P (.binOp .eql t x y t') ty E B L (.bool a.isNone) := fun _ _ _ ac w _ _ _ _ ha _ => by
  simp only [execOp, ha.eval hx, ha.eval hy, Sem.run_bind]
  rw [eqGuard_no (by simp) (by simp)]
  have := run_eqp (P := P) 9999 (a := a) w hu.get
  simp only [Result.andThen_ok, binOp, Sem.run_bind, Op.equal, Op.maxDepth, this, Sem.run_pure]
theorem y_nepnil {t t' ty e : TypeId} {x y : Operand} {a : Option Addr} [hu : TyU P t (.pointer e)] (hx : ev E x = some (.pointer a)) (hy : ev E y = some (.pointer none)) : Yld P (.binOp .neq t x y t') ty E B L (.bool (!a.isNone)) := fun _ _ _ ac w _ _ _ _ ha _ => by
  simp only [execOp, ha.eval hx, ha.eval hy, Sem.run_bind]
  rw [eqGuard_no (by simp) (by simp)]
  have := run_eqp (P := P) 9999 (a := a) w hu.get
  simp only [Result.andThen_ok, binOp, Sem.run_bind, Op.equal, Op.maxDepth, this, Sem.run_pure]

/-! ### Sums compared -/
class TyG (P : Program) (t : TypeId) : Prop where
  out : P.eqGuardType P.depth t = false
def eqItems (d : Nat) (e : TypeId) (c : Nat) (xs ys : Array Value) : List Nat → Sem Bool
  | [] => pure true
  | i :: is => do
    let a ← part e xs (i * c)
    let b ← part e ys (i * c)
    let r ← Op.equalIn d e a b
    if (!r) = true then pure false else eqItems d e c xs ys is
theorem run_eqArr (d : Nat) {t e : TypeId} {n sz : Nat} (xs ys : Array Value) (w : World) [hu : TyU P t (.array n e)] [hs : TyS P e sz] :
    (Op.equalIn (d + 1) t (.agg xs) (.agg ys)).run P w = (eqItems d e sz xs ys (List.range n)).run P w := by
  simp only [Op.equalIn, Sem.run_bind, hu.run, Result.andThen_ok, hs.run]
  simp only [Std.Legacy.Range.forIn_eq_forIn_range', Std.Legacy.Range.size, Nat.sub_zero, Nat.add_one_sub_one, Nat.div_one, List.range_eq_range']
  generalize List.range' 0 n = is
  induction is generalizing w with
  | nil => simp [eqItems]
  | cons j is ih =>
    simp only [List.forIn_cons, eqItems, Sem.run_bind]
    generalize (part e xs (j * sz)).run P w = r1
    cases r1 with
    | ok a w1 =>
      simp only [Result.andThen_ok]
      generalize (part e ys (j * sz)).run P w1 = r2
      cases r2 with
      | ok b w2 =>
        simp only [Result.andThen_ok]
        generalize (Op.equalIn d e a b).run P w2 = r3
        cases r3 with
        | ok r w3 =>
          cases r
          · simp only [Result.andThen_ok, Bool.not_false, if_true, Sem.run_pure]
          · simp only [Result.andThen_ok, Bool.not_true, Bool.false_eq_true, if_false, Sem.run_pure]
            exact ih w3
        | halt x w3 => simp [Result.andThen]
      | halt x w2 => simp [Result.andThen]
    | halt x w1 => simp [Result.andThen]
theorem run_eqBytes {e : TypeId} [hu : TyU P e (.int .u8)] [ha : TyA P e false] (d : Nat) (w : World) : ∀ (l m : List UInt8) (k : Nat) (xs ys : List Value), l.length = m.length → xs.drop k = cBs l → ys.drop k = cBs m →
    (eqItems (d + 1) e 1 xs.toArray ys.toArray (List.range' k l.length)).run P w = .ok (decide (l = m)) w
  | [], [], k, xs, ys, _, _, _ => by simp [eqItems]
  | a :: l, b :: m, k, xs, ys, hl, h1, h2 => by
    have g1 : xs[k]? = some (cB a) := by rw [← List.head?_drop, h1]; rfl
    have g2 : ys[k]? = some (cB b) := by rw [← List.head?_drop, h2]; rfl
    have t1 : xs.drop (k + 1) = cBs l := by rw [← List.tail_drop, h1]; rfl
    have t2 : ys.drop (k + 1) = cBs m := by rw [← List.tail_drop, h2]; rfl
    have p1 : (part e xs.toArray (k * 1)).run P w = .ok (cB a) w := by simp [part, ha.run, g1]
    have p2 : (part e ys.toArray (k * 1)).run P w = .ok (cB b) w := by simp [part, ha.run, g2]
    have q : (Op.equalIn (d + 1) e (cB a) (cB b)).run P w = .ok ((a.toNat : Int) == (b.toNat : Int)) w := run_equalIn_int w d e .u8 .u8 _ _ hu.get
    simp only [List.length_cons, List.range'_succ, eqItems, Sem.run_bind, p1, p2, q, Result.andThen_ok]
    by_cases hab : a = b
    · subst hab
      simp only [beq_self_eq_true, Bool.not_true, Bool.false_eq_true, if_false]
      rw [run_eqBytes d w l m (k + 1) xs ys (by simpa using hl) t1 t2]
      simp
    · have : ((a.toNat : Int) == (b.toNat : Int)) = false := by
        rw [beq_eq_false_iff_ne]; intro h; exact hab (UInt8.toNat_inj.1 (by omega))
      simp [this, hab]
  | [], _ :: _, _, _, _, hl, _, _ => by simp at hl
  | _ :: _, [], _, _, _, hl, _, _ => by simp at hl
theorem run_eqID {t e : TypeId} [TyU P t (.array 32 e)] [TyS P e 1] [TyU P e (.int .u8)] [TyA P e false] (a b : ID) (w : World) : (Op.equal t (agg [.row 32 a.cs]) (agg [.row 32 b.cs])).run P w = .ok (decide (a = b)) w := by
  have h1 := run_eqArr (P := P) 9999 (t := t) (e := e) (n := 32) (sz := 1) (flat [.row 32 a.cs]).toArray (flat [.row 32 b.cs]).toArray w
  have h2 := run_eqBytes (P := P) (e := e) 9998 w a.bs b.bs 0 (flat [.row 32 a.cs]) (flat [.row 32 b.cs]) (by rw [a.len, b.len]) (by simp [flat, Seg.cells, ID.cs]) (by simp [flat, Seg.cells, ID.cs])
  rw [a.len, ← List.range_eq_range'] at h2
  have e : decide (a.bs = b.bs) = decide (a = b) := by
    rw [decide_eq_decide]; exact ⟨ID.ext', fun h => by rw [h]⟩
  rw [e] at h2
  exact h1.trans h2
theorem y_eqID {t t' ty e : TypeId} {x y : Operand} {a b : ID} [TyU P t (.array 32 e)] [TyS P e 1] [TyU P e (.int .u8)] [TyA P e false] [hg : TyG P t] (hx : ev E x = some (agg [.row 32 a.cs])) (hy : ev E y = some (agg [.row 32 b.cs])) :
    Yld P (.binOp .eql t x y t') ty E B L (.bool (decide (a = b))) := fun _ _ _ ac w _ _ _ _ ha _ => by
  have := run_eqID (P := P) (t := t) a b w
  simp only [execOp, ha.eval hx, ha.eval hy, Sem.run_bind]
  rw [agg, agg] at *
  rw [run_eqGuard_agg w _ _ _ _ _ _ hg.out]
  simp only [Result.andThen_ok, binOp, Sem.run_bind, this, Sem.run_pure]
theorem y_neID {t t' ty e : TypeId} {x y : Operand} {a b : ID} [TyU P t (.array 32 e)] [TyS P e 1] [TyU P e (.int .u8)] [TyA P e false] [hg : TyG P t] (hx : ev E x = some (agg [.row 32 a.cs])) (hy : ev E y = some (agg [.row 32 b.cs])) :
    Yld P (.binOp .neq t x y t') ty E B L (.bool (decide (a ≠ b))) := fun _ _ _ ac w _ _ _ _ ha _ => by
  have := run_eqID (P := P) (t := t) a b w
  simp only [execOp, ha.eval hx, ha.eval hy, Sem.run_bind]
  rw [agg, agg] at *
  rw [run_eqGuard_agg w _ _ _ _ _ _ hg.out]
  simp only [Result.andThen_ok, binOp, Sem.run_bind, this, Sem.run_pure]
  simp
end
end Sc
