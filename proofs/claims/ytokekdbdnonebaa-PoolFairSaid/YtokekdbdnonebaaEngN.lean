/- Blocks that are one row of bytes or of machine words. -/
import Derived.Test.YtokekdbdnonebaaEngM
namespace Sc
open Go
def gW (l : List UInt32) (i : Nat) : UInt32 := l.getD i 0
def gB (l : List UInt8) (i : Nat) : UInt8 := l.getD i 0
theorem cBs_get {l : List UInt8} {i : Nat} (h : i < l.length) : (cBs l)[i]? = some (cB (gB l i)) := by
  simp [cBs, gB, List.getElem?_eq_getElem h]
theorem cWs_get {l : List UInt32} {i : Nat} (h : i < l.length) : (cWs l)[i]? = some (cW (gW l i)) := by
  simp [cWs, gW, List.getElem?_eq_getElem h]
theorem cBs_set (l : List UInt8) (i : Nat) (x : UInt8) : cBs (l.set i x) = (cBs l).set i (cB x) := by simp [cBs]
theorem cWs_set (l : List UInt32) (i : Nat) (x : UInt32) : cWs (l.set i x) = (cWs l).set i (cW x) := by simp [cWs]
theorem set_take {α : Type} {l : List α} {i : Nat} (x : α) (h : i < l.length) : l.take i ++ [x] ++ l.drop (i + 1) = l.set i x := by
  rw [List.set_eq_take_append_cons_drop, if_pos h]; simp
section
variable {P : Program} {ro : Option Nat} {Q : Exit → Act → World → Prop} {W0 : World} {n : Nat} {K : Act → World → Prop} {E : Env} {ds : List Deferred} {B : PH} {L : List Asrt}
theorem y_ldB {t tb b o d m : Nat} {l : List UInt8} {R : List Asrt} {x : Operand} {ty : TypeId} [TyA P t false] [p : PickB b L tb [.row m (cBs l)] R] (hx : ev E x = some (.pointer (some ⟨b, o, none⟩))) (ho : o = d) (hd : d < l.length) : Yld P (.load t x) ty E B L (cB (gB l d)) :=
  y_ldr (p := p) (o0 := 0) (d := d) hx rfl (by omega) (cBs_get hd)
theorem y_ldW {t tb b o d m : Nat} {l : List UInt32} {R : List Asrt} {x : Operand} {ty : TypeId} [TyA P t false] [p : PickB b L tb [.row m (cWs l)] R] (hx : ev E x = some (.pointer (some ⟨b, o, none⟩))) (ho : o = d) (hd : d < l.length) : Yld P (.load t x) ty E B L (cW (gW l d)) :=
  y_ldr (p := p) (o0 := 0) (d := d) hx rfl (by omega) (cWs_get hd)
theorem k_row {b tb m : Nat} {cs : List Value} {R : List Asrt} [p : PickB b L tb [.row m cs] R] (h : cs.length = m → KGo W0 n K E ds B (bk b tb [.row m cs] :: R)) : KGo W0 n K E ds B L := fun a w ha hw => by
  have h1 := hw.ent p.out
  exact h h1.bk.1.1.1 a w ha h1
theorem o_stB {t tb b o d m : Nat} {l : List UInt8} {R : List Asrt} {x z : Operand} {ty : TypeId} {pos : String} {af : Array Edge} {g : Option (Nat × Bool)} {v : UInt8} [TyS P t 1] [p : PickB b L tb [.row m (cBs l)] R] (hx : ev E x = some (.pointer (some ⟨b, o, none⟩))) (hz : ev E z = some (cB v))
    (ho : o = d) (hd : d < l.length) (hm : l.length = m) (h : KGo W0 n K E ds B (bk b tb [.row m (cBs (l.set d v))] :: R)) : KGo W0 n (wo P ro ⟨none, .store t x z, ty, pos, af, g⟩ K Q) E ds B L := by
  have hl := cBs_length l
  have := o_str (P := P) (ro := ro) (Q := Q) (t := t) (ty := ty) (pos := pos) (af := af) (g := g) (p := p) (o0 := 0) (d := d) (s' := [.row m ((cBs l).take d ++ flat [.one (cB v)] ++ (cBs l).drop (d + 1))]) (y := [.one (cB v)]) hx hz rfl (by omega) rfl (by omega) rfl (K := K) (W0 := W0) (n := n) (ds := ds) (B := B)
  refine this ?_
  rw [show flat [.one (cB v)] = [cB v] from rfl, set_take _ (by omega), ← cBs_set]
  exact h
theorem o_stW {t tb b o d m : Nat} {l : List UInt32} {R : List Asrt} {x z : Operand} {ty : TypeId} {pos : String} {af : Array Edge} {g : Option (Nat × Bool)} {v : UInt32} [TyS P t 1] [p : PickB b L tb [.row m (cWs l)] R] (hx : ev E x = some (.pointer (some ⟨b, o, none⟩))) (hz : ev E z = some (cW v))
    (ho : o = d) (hd : d < l.length) (hm : l.length = m) (h : KGo W0 n K E ds B (bk b tb [.row m (cWs (l.set d v))] :: R)) : KGo W0 n (wo P ro ⟨none, .store t x z, ty, pos, af, g⟩ K Q) E ds B L := by
  have hl := cWs_length l
  have := o_str (P := P) (ro := ro) (Q := Q) (t := t) (ty := ty) (pos := pos) (af := af) (g := g) (p := p) (o0 := 0) (d := d) (s' := [.row m ((cWs l).take d ++ flat [.one (cW v)] ++ (cWs l).drop (d + 1))]) (y := [.one (cW v)]) hx hz rfl (by omega) rfl (by omega) rfl (K := K) (W0 := W0) (n := n) (ds := ds) (B := B)
  refine this ?_
  rw [show flat [.one (cW v)] = [cW v] from rfl, set_take _ (by omega), ← cWs_set]
  exact h
theorem oks_row {m : Nat} {l : List UInt8} (h : l.length = m) : OkS [.row m (cBs l)] := ⟨⟨by rw [cBs_length, h], cBs_one l⟩, trivial⟩
theorem oks_rowW {m : Nat} {l : List UInt32} (h : l.length = m) : OkS [.row m (cWs l)] := ⟨⟨by rw [cWs_length, h], cWs_one l⟩, trivial⟩
instance (m : Nat) : RowOk m (cBs (List.replicate m 0)) := ⟨by rw [cBs_length]; simp, cBs_one _⟩
instance (m : Nat) : RowOk m (cWs (List.replicate m 0)) := ⟨by rw [cWs_length]; simp, cWs_one _⟩
theorem y_shlU {x y : Operand} {t t' ty : TypeId} {k' : IntKind} {m s : Nat} (hx : ev E x = some (.int .u64 (m : Int))) (hy : ev E y = some (.int k' (s : Int))) (hs : s ≤ 64) : Yld P (.binOp .shl t x y t') ty E B L (.int .u64 ((m * 2 ^ s % 18446744073709551616 : Nat) : Int)) := by
  have := y_shift (P := P) (t := t) (t' := t') (ty := ty) (B := B) (L := L) (op := .shl) (.inl rfl) hx hy
  simp only [Nat.min_eq_left (show s ≤ IntKind.u64.bits from hs)] at this
  rwa [show ((m : Int) * 2 ^ s) = ((m * 2 ^ s : Nat) : Int) by push_cast; rfl, wrap_u64] at this
/-- Unsigned words, as numbers. -/
theorem y_andU {x y : Operand} {t t' ty : TypeId} {k : IntKind} {m q : Nat} (hk : k.signed = false) (hx : ev E x = some (.int k (m : Int))) (hy : ev E y = some (.int k (q : Int))) (hm : m < 2 ^ k.bits) (hq : q < 2 ^ k.bits) : Yld P (.binOp .and t x y t') ty E B L (.int k ((m &&& q : Nat) : Int)) := by
  have := y_bits (P := P) (t := t) (t' := t') (ty := ty) (B := B) (L := L) (op := .and) (.inl rfl) hx hy
  simp only [and_val m q hm hq] at this
  rw [wrapU _ hk, show ((m &&& q : Nat) : Int) % 2 ^ k.bits = ((m &&& q : Nat) : Int) by
    have : (m &&& q) < 2 ^ k.bits := Nat.lt_of_le_of_lt Nat.and_le_left hm
    rw [Int.emod_eq_of_lt (by omega) (by exact_mod_cast this)]] at this
  exact this

/-- An array of which every element is told. -/
theorem fill_all : ∀ (vs : List Value) (k : Nat) (zs : List Value), (∀ v ∈ vs, v.oneCell' = true) → zs.length = k + vs.length →
    Instr.fill (fun i => some (i * 1, 1)) zs.toArray ((vs.zipIdx k).map fun p => (p.2, p.1)) = some (zs.take k ++ vs).toArray
  | [], k, zs, _, h => by simp at h; simp [Instr.fill, ← h]
  | v :: vs, k, zs, h1, h => by
    have hc : v.cells = #[v] := by
      have : SegsOf v [.one v] := @instSegsOfConsSegOneNilOfOneC v ⟨h1 v List.mem_cons_self⟩
      exact this.cells
    simp only [List.length_cons] at h
    simp only [List.zipIdx_cons, List.map_cons, Instr.fill, hc]
    have hn : ¬ ((decide ((#[v] : Array Value).size ≠ 1) || decide (k * 1 + (#[v] : Array Value).size > zs.toArray.size)) = true) := by simp; omega
    rw [if_neg hn]
    have e : ((#[v] : Array Value).zipIdx.foldl (fun cs (x : Value × Nat) => cs.setIfInBounds (k * 1 + x.2) x.1) zs.toArray) = (zs.set k v).toArray := by simp
    have := fill_all vs (k + 1) (zs.set k v) (fun u hu => h1 u (List.mem_cons_of_mem _ hu)) (by simp; omega)
    rw [show (zs.set k v).take (k + 1) = zs.take k ++ [v] by rw [List.take_succ_eq_append_getElem (by simp; omega), List.take_set_of_le (Nat.le_refl _)]; simp] at this
    rw [List.append_assoc] at this
    refine Eq.trans ?_ this
    congr 1
theorem y_bdw {t e ty m : Nat} {ps : Array (Nat × Operand)} {vs : List (Nat × Value)} {z : List Seg} [hu : TyU P t (.array m e)] [hs : TyS P e 1] [hz : TyZ P t z] (hm : Nat.beq (swidth z) m = true) (hv : evp E ps.toList = some vs) (cs : List Value) (hi : ((cs.zipIdx 0).map fun p => (p.2, p.1)) = vs) (hl : Nat.beq cs.length m = true) (h1 : cs.all (fun v => v.oneCell') = true) :
    Yld P (.build t ps) ty E B L (agg [.row m cs]) := fun _ _ _ a w _ _ _ _ ha _ => by
  obtain ⟨zv, hz1, hz2⟩ := hz.run w
  have e2 : (ps.map fun (i, x) => (i, a.eval x)) = vs.toArray := by rw [← Array.toList_inj]; simpa using ha.evps hv
  have hzl : (flat z).length = m := by rw [← swidth_eq hz.ok]; exact Nat.eq_of_beq_eq_true hm
  have hf := fill_all cs 0 (flat z) (all_one h1) (by rw [hzl, Nat.eq_of_beq_eq_true hl]; omega)
  rw [hi] at hf
  simp only [execOp, Sem.run_bind]
  rw [e2]
  simp only [Instr.build, Sem.run_bind, hz1, hu.run, hs.run, Result.andThen_ok, hz2, hf]
  simp [agg, flat, Seg.cells]
end
end Sc
