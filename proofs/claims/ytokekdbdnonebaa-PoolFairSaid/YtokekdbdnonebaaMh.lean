/- Pools: the functions themselves. -/
import Derived.Test.YtokekdbdnonebaaMg
import Derived.Test.YtokekdbdnonebaaEngV
namespace Sc
open Go
/-- An entry that waits, and its bytes in memory. -/
structure PW where
  who : Int
  num : Int
  bv : Value
  bytes : List UInt8
  one : OneC bv
def pwE (a : PW) : P3 := (.int .i64 a.who, .int .i64 a.num, a.bv)
theorem pwE_one (a : PW) : One3 (pwE a) := ⟨⟨rfl⟩, ⟨rfl⟩, a.one⟩
abbrev W3 := Int × Int × List UInt8
def PW.abs (a : PW) : W3 := (a.who, a.num, a.bytes)
def PoolOk (B : PH) (l : List PW) : Prop := ∀ a ∈ l, IsB B a.bv a.bytes
theorem PoolOk.mono {B B' : PH} {l : List PW} (h : PoolOk B l) (k : B.le B') : PoolOk B' l := fun a ha => (h a ha).mono k
/-- An entry is put. -/
def putE (l : List W3) (b : List UInt8) : Int × List W3 := match checkE b with
  | .error e => (e, l)
  | .ok m => if ∃ a ∈ l, a.1 = m.who ∧ a.2.1 = m.num then (5, l) else if (l.filter fun a => a.1 = m.who).length = 3 then (120, l) else if l.length = 24 then (3, l) else (0, l ++ [(m.who, m.num, b)])
theorem putE_err {l : List W3} {b : List UInt8} {e : Int} (h : checkE b = .error e) : putE l b = (e, l) := by rw [putE, h]
theorem putE_ok {l : List W3} {b : List UInt8} {m : Msg} (h : checkE b = .ok m) : putE l b = if ∃ a ∈ l, a.1 = m.who ∧ a.2.1 = m.num then (5, l) else if (l.filter fun a => a.1 = m.who).length = 3 then (120, l) else if l.length = 24 then (3, l) else (0, l ++ [(m.who, m.num, b)]) := by rw [putE, h]
theorem filter_next {α : Type} {p : α → Bool} {l : List α} {k : Nat} {a : α} (h : l[k]? = some a) : (l.take (k + 1)).filter p = (l.take k).filter p ++ if p a then [a] else [] := by
  rw [take_succ h, List.filter_append]
  by_cases hp : p a <;> simp [hp]
theorem filter_get {α : Type} {p : α → Bool} {l : List α} {k : Nat} {a : α} (h : l[k]? = some a) (hp : p a = true) : (l.filter p)[((l.take k).filter p).length]? = some a := by
  have h1 : (l.take (k + 1)).filter p <+: l.filter p := (List.take_prefix _ _).filter p
  rw [filter_next h, hp] at h1
  exact get_pre h1
theorem filter_le {α : Type} {p : α → Bool} {l : List α} {k : Nat} {a : α} (h : l[k]? = some a) (hp : p a = true) : ((l.take k).filter p).length < (l.filter p).length := (List.getElem?_eq_some_iff.1 (filter_get h hp)).1
def mine (l : List PW) (who : Int) : List PW := l.filter fun a => decide (a.who = who)
theorem mine_abs (l : List PW) (who : Int) : (mine l who).length = ((l.map PW.abs).filter fun a => a.1 = who).length := by
  rw [List.filter_map, List.length_map]; rfl
/-- What the book has waits no more. -/
def doneE (k : Bk) (l : List W3) : List W3 := l.filter fun a => !(mget k.whr (a.1, a.2.1)).isSome
theorem delAll_filter {α σ : Type} (t : α → Bool) (l : List α) (s : σ) : delAll (fun _ a => t a) (fun s _ => s) l s = (l.filter fun a => !t a, s) := by
  induction l with
  | nil => rfl
  | cons a l ih =>
    simp only [delAll, ih]
    by_cases h : t a <;> simp [h]
def batchE (l : List W3) : List UInt8 := match joinB ((l.take 8).map fun a => a.2.2) with
  | .ok x => x
  | .error _ => []
end Sc
