/- Sums: the blocks of bytes, and what all comes to. -/
import Derived.Test.YtokekdbdnonebaaMa
import Derived.Test.YtokekdbdnonebaaEngO
namespace Sc
open Go
/-- What stands in the block that is being filled. -/
def preB (msg : List UInt8) (m : Nat) : List UInt8 := (msg.take m).drop (64 * (m / 64))
abbrev z64 : List UInt8 := List.replicate 64 0
def endB (msg : List UInt8) : List UInt8 := (preB msg msg.length ++ z64.drop (msg.length % 64)).set (msg.length % 64) 128
/-- How many bits there were. -/
def lset (e : List UInt8) (m : Nat) : Nat → List UInt8
  | 0 => e
  | i + 1 => (lset e m i).set (63 - i) (UInt8.ofNat ((m * 2 ^ 3 % 18446744073709551616) / 2 ^ (8 * i)))
def lastB (msg : List UInt8) : List UInt8 := lset (if 56 ≤ msg.length % 64 then z64 else endB msg) msg.length 8
def nblk (msg : List UInt8) : Nat := msg.length / 64 + if 56 ≤ msg.length % 64 then 2 else 1
def blk (msg : List UInt8) (i : Nat) : List UInt8 :=
  if i < msg.length / 64 then (msg.drop (64 * i)).take 64 else if i + 1 = nblk msg then lastB msg else endB msg
theorem preB_length (msg : List UInt8) {m : Nat} (h : m ≤ msg.length) : (preB msg m).length = m % 64 := by
  simp [preB, Nat.min_eq_left h]; omega
theorem endB_length (msg : List UInt8) : (endB msg).length = 64 := by
  have := preB_length msg (Nat.le_refl msg.length)
  simp only [endB, List.length_set, List.length_append, this, List.length_drop, z64, List.length_replicate]
  omega
theorem lset_length (e : List UInt8) (m : Nat) (h : e.length = 64) : ∀ i, (lset e m i).length = 64
  | 0 => h
  | i + 1 => by simp [lset, lset_length e m h i]
theorem lastB_length (msg : List UInt8) : (lastB msg).length = 64 := by
  refine lset_length _ _ ?_ 8
  split
  · simp [z64]
  · exact endB_length msg
theorem blk_length (msg : List UInt8) (i : Nat) : (blk msg i).length = 64 := by
  unfold blk
  split
  · simp; omega
  · split
    · exact lastB_length msg
    · exact endB_length msg
theorem nblk_pos (msg : List UInt8) : 0 < nblk msg := by unfold nblk; split <;> omega
theorem blk_last (msg : List UInt8) : blk msg (nblk msg - 1) = lastB msg := by
  have h := nblk_pos msg
  rw [blk, if_neg (by unfold nblk; split <;> omega), if_pos (by omega)]
theorem blk_end (msg : List UInt8) (h : 56 ≤ msg.length % 64) : blk msg (msg.length / 64) = endB msg := by
  rw [blk, if_neg (by omega), if_neg (by unfold nblk; rw [if_pos h]; omega)]
/-- One more byte. -/
theorem preB_more {msg buf : List UInt8} {m : Nat} {x : UInt8} (hx : msg[m]? = some x) (hb : buf.length = 64) (hp : buf.take (m % 64) = preB msg m) (hr : (m + 1) % 64 ≠ 0) : (buf.set (m % 64) x).take ((m + 1) % 64) = preB msg (m + 1) := by
  have e1 : (m + 1) % 64 = m % 64 + 1 := by omega
  have e2 : (m + 1) / 64 = m / 64 := by omega
  have hm := (List.getElem?_eq_some_iff.1 hx).1
  have hx' := (List.getElem?_eq_some_iff.1 hx).2
  rw [e1, List.take_succ_eq_append_getElem (by simp; omega), List.getElem_set_self, List.take_set_of_le (Nat.le_refl _), hp]
  unfold preB
  rw [e2, List.take_succ_eq_append_getElem hm, List.drop_append_of_le_length (by simp; omega), hx']
theorem preB_full {msg buf : List UInt8} {m : Nat} {x : UInt8} (hx : msg[m]? = some x) (hb : buf.length = 64) (hp : buf.take (m % 64) = preB msg m) (hr : (m + 1) % 64 = 0) : buf.set (m % 64) x = blk msg (m / 64) := by
  have hm := (List.getElem?_eq_some_iff.1 hx).1
  have hx' := (List.getElem?_eq_some_iff.1 hx).2
  have e1 : m % 64 = 63 := by omega
  rw [blk, if_pos (by omega)]
  have e3 : buf.set (m % 64) x = buf.take 63 ++ [x] := by
    rw [e1, ← set_take x (by omega), List.drop_of_length_le (by omega)]; simp
  rw [e1] at hp
  rw [e3, hp]
  unfold preB
  have : (msg.drop (64 * (m / 64))).take 64 = (msg.take (m + 1)).drop (64 * (m / 64)) := by
    rw [List.take_drop, show 64 * (m / 64) + 64 = m + 1 by omega]
  rw [this, List.take_succ_eq_append_getElem hm, List.drop_append_of_le_length (by simp; omega), hx']
theorem preB_zero (msg : List UInt8) {m : Nat} (hr : m % 64 = 0) : preB msg m = [] := by
  unfold preB
  rw [List.drop_of_length_le (by simp; omega)]
theorem flat_get {parts : List (List UInt8)} {k j : Nat} {p : List UInt8} (hk : parts[k]? = some p) (hj : j < p.length) : parts.flatten[(parts.take k).flatten.length + j]? = some (gB p j) := by
  have hlt := (List.getElem?_eq_some_iff.1 hk).1
  have e : parts.flatten = (parts.take k).flatten ++ (p ++ (parts.drop (k + 1)).flatten) := by
    have h1 : parts = parts.take k ++ p :: parts.drop (k + 1) := by
      rw [← (List.getElem?_eq_some_iff.1 hk).2, ← List.drop_eq_getElem_cons hlt, List.take_append_drop]
    have h2 : parts.flatten = (parts.take k ++ p :: parts.drop (k + 1)).flatten := congrArg List.flatten h1
    rw [h2]; simp
  rw [e, List.getElem?_append_right (by omega), Nat.add_sub_cancel_left, List.getElem?_append_left hj]
  simp [gB, List.getElem?_eq_getElem hj]
theorem flat_next {parts : List (List UInt8)} {k : Nat} {p : List UInt8} (hk : parts[k]? = some p) : (parts.take (k + 1)).flatten.length = (parts.take k).flatten.length + p.length := by
  have hlt := (List.getElem?_eq_some_iff.1 hk).1
  rw [List.take_succ_eq_append_getElem hlt, (List.getElem?_eq_some_iff.1 hk).2]
  simp
theorem flat_le (parts : List (List UInt8)) (k : Nat) : (parts.take k).flatten.length ≤ parts.flatten.length := by
  have : parts.flatten = (parts.take k).flatten ++ (parts.drop k).flatten := by rw [← List.flatten_append, List.take_append_drop]
  rw [this]; simp
/-- The sum's last step. -/
def iv : List UInt32 := [0x6a09e667, 0xbb67ae85, 0x3c6ef372, 0xa54ff53a, 0x510e527f, 0x9b05688c, 0x1f83d9ab, 0x5be0cd19]
def takes (msg : List UInt8) : Nat → List UInt32
  | 0 => iv
  | i + 1 => takeB (takes msg i) (blk msg i)
theorem takes_length (msg : List UInt8) : ∀ i, (takes msg i).length = 8
  | 0 => rfl
  | i + 1 => takeB_length _ _ (takes_length msg i)
def outB (s : List UInt32) : Nat → List UInt8
  | 0 => zID.bs
  | i + 1 => (outB s i).set i ((gW s (i / 4) >>> UInt32.ofNat (24 - 8 * (i % 4))).toUInt8)
theorem outB_length (s : List UInt32) : ∀ i, (outB s i).length = 32
  | 0 => by simp [outB, zID]
  | i + 1 => by simp [outB, outB_length s i]
/-- The sum of bytes. -/
def sumB (msg : List UInt8) : ID := ⟨outB (takes msg (nblk msg)) 32, outB_length _ 32⟩
theorem wrap_u64' (m : Nat) (h : m < 18446744073709551616) : IntKind.u64.wrap (m : Int) = (m : Int) := by rw [wrap_u64, Nat.mod_eq_of_lt h]
theorem copy_eq {n r : Nat} {buf z p : List UInt8} (h3 : buf.take r = p) (hr : r ≤ buf.length) :
    (flat [.row n (cBs z)]).take 0 ++ cBs ((buf.drop 0).take r) ++ (flat [.row n (cBs z)]).drop (0 + (cBs ((buf.drop 0).take r)).length) = flat [.row n (cBs (p ++ z.drop r))] := by
  have hl : p.length = r := by rw [← h3]; simp; omega
  simp only [flat, Seg.cells, List.append_nil, List.take_zero, List.nil_append, List.drop_zero, h3, Nat.zero_add, cBs_append, cBs_length, hl]
  simp [cBs, List.map_drop]
def leafB (x : List UInt8) : ID := sumB (0 :: x)
def nodeB (a b : ID) : ID := sumB (1 :: (a.bs ++ b.bs))
theorem sumB_cs (msg : List UInt8) : (sumB msg).cs = cBs (outB (takes msg (nblk msg)) 32) := by rw [ID.cs, sumB]
section
variable {P : Program} {E : Env} {B : PH} {L : List Asrt}
/-- An element of what lies on the pile. -/
theorem y_ldi {t b o o' i : Nat} {cs : List Value} {x : Operand} {ty : TypeId} {v : Value} [TyA P t false] (hx : ev E x = some (.pointer (some ⟨b, o', none⟩))) (hr : prow B b o cs) (ho : o' = o + i) (hv : cs[i]? = some v) : Yld P (.load t x) ty E B L v := by
  subst ho; exact y_ldp hx (hr.cell hv)
theorem src_rowB {b o c tb m k : Nat} {l : List UInt8} {R R' : List Asrt} [p : PickB b R tb [.row m (cBs l)] R'] (h : o + k ≤ l.length) : Src P 1 B R (.slice (some ⟨b, o, none⟩) k c) k (cBs ((l.drop o).take k)) := by
  refine ⟨fun w => rfl, fun W0 w hw => ?_, by simp [cBs_length]; omega, cBs_one _⟩
  obtain ⟨h1, h2⟩ := hw.block (p := p)
  simp only [Builtin.firstCells, Nat.mul_one]
  rw [run_loadCells' h1 (by simp [flat, Seg.cells, cBs_length]; omega)]
  simp [flat, Seg.cells, cBs]
end
end Sc
