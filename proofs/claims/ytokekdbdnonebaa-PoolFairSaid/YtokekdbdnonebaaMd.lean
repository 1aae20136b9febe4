/- Messages read: the functions themselves. -/
import Derived.Test.YtokekdbdnonebaaMc
namespace Sc
open Go
theorem runR_lt {l b r : List UInt8} (h : runR l = some (b, r)) : r.length < l.length ∧ b.length ≤ l.length := by
  unfold runR at h
  split at h
  · cases h
  · split at h
    · cases h
    · simp only [Option.some.injEq, Prod.mk.injEq] at h
      obtain ⟨rfl, rfl⟩ := h
      simp; omega
inductive Nx where
  | done
  | bad (e : Int)
  | item (tag : UInt8) (b rest : List UInt8)
/-- What comes next of a message's fields. -/
def nextF (last : UInt8) (rest : List UInt8) : Nx :=
  if rest.length = 0 then .done
  else if gB rest 0 ≤ last ∨ gB rest 0 > 9 then .bad 21
  else match runR (rest.drop 1) with
    | none => .bad 20
    | some (b, r) => .item (gB rest 0) b r
theorem nextF_lt {last tag : UInt8} {rest b r : List UInt8} (h : nextF last rest = .item tag b r) : r.length < rest.length ∧ b.length < rest.length ∧ last < tag ∧ tag ≤ 9 := by
  unfold nextF at h
  split at h
  · cases h
  · split at h
    · cases h
    · split at h
      · cases h
      · rename_i h1 h2 _ b' r' hr
        simp only [Nx.item.injEq] at h
        obtain ⟨rfl, rfl, rfl⟩ := h
        obtain ⟨h3, h4⟩ := runR_lt hr
        simp only [List.length_drop] at h3 h4
        refine ⟨by omega, by omega, ?_, ?_⟩
        · exact UInt8.not_le.1 fun h => h2 (.inl h)
        · exact UInt8.not_lt.1 fun h => h2 (.inr h)
def idOf (b : List UInt8) : ID := if h : b.length = 32 then ⟨b, h⟩ else zID
def chunks (b : List UInt8) : List ID := if h : 32 ≤ b.length then idOf (b.take 32) :: chunks (b.drop 32) else []
termination_by b.length
decreasing_by simp; omega
def lists (rest : List UInt8) : Option (List (List UInt8)) :=
  if rest.length = 0 then some []
  else match h : runR rest with
    | none => none
    | some (x, r) => match lists r with
      | none => none
      | some l => some (x :: l)
termination_by rest.length
decreasing_by exact (runR_lt h).1
def setNum (m : Msg) : Nat → Int → Msg
  | 0, v => { m with who := v }
  | 1, v => { m with height := v }
  | 2, v => { m with round := v }
  | 3, v => { m with valid := v }
  | _, v => { m with num := v }
/-- One field more: an error, or the message with it. -/
def stepM (m : Msg) (tag : UInt8) (b : List UInt8) : Except Int Msg :=
  if b.length = 0 then .error 23
  else if tag < 6 then (if numBad b then .error 23 else .ok (setNum m (tag.toNat - 1) (numR b)))
  else if tag = 6 then (if b.length ≠ 32 ∨ idOf b = zID then .error 23 else .ok { m with id := idOf b })
  else if tag = 7 then .ok { m with data := b }
  else if tag = 8 then (if b.length % 32 ≠ 0 then .error 23 else .ok { m with ids := m.ids ++ chunks b })
  else match lists b with
    | none => .error 20
    | some l => .ok { m with list := m.list ++ l }
def readF (m : Msg) (last : UInt8) (rest : List UInt8) : Except Int Msg :=
  match h : nextF last rest with
  | .done => .ok m
  | .bad e => .error e
  | .item tag b r => match stepM m tag b with
    | .error e => .error e
    | .ok m' => readF m' tag r
termination_by rest.length
decreasing_by exact (nextF_lt h).1
def zMsg : Msg := ⟨0, 0, 0, 0, 0, 0, zID, [], [], []⟩
/-- The message of some bytes. -/
def readM (b : List UInt8) : Except Int Msg :=
  if b.length = 0 then .error 20
  else if gB b 0 < 1 ∨ gB b 0 > 31 then .error 21
  else match readF { zMsg with kind := (gB b 0).toNat } 0 (b.drop 1) with
    | .error e => .error e
    | .ok m => if checkM m ≠ 0 then .error (checkM m) else .ok m
theorem readF_item {m : Msg} {last tag : UInt8} {rest b r : List UInt8} (h : nextF last rest = .item tag b r) : readF m last rest = match stepM m tag b with
    | .error e => .error e
    | .ok m' => readF m' tag r := by
  rw [readF]
  split
  · rename_i h1; rw [h] at h1; cases h1
  · rename_i h1; rw [h] at h1; cases h1
  · rename_i h1; rw [h] at h1; cases h1; rfl
theorem readF_done {m : Msg} {last : UInt8} {rest : List UInt8} (h : nextF last rest = .done) : readF m last rest = .ok m := by
  rw [readF]
  split
  · rfl
  · rename_i h1; rw [h] at h1; cases h1
  · rename_i h1; rw [h] at h1; cases h1
theorem readF_bad {m : Msg} {last : UInt8} {rest : List UInt8} {e : Int} (h : nextF last rest = .bad e) : readF m last rest = .error e := by
  rw [readF]
  split
  · rename_i h1; rw [h] at h1; cases h1
  · rename_i h1; rw [h] at h1; cases h1; rfl
  · rename_i h1; rw [h] at h1; cases h1
theorem lists_nil {rest : List UInt8} (h : rest.length = 0) : lists rest = some [] := by rw [lists, if_pos h]
theorem lists_none {rest : List UInt8} (h0 : rest.length ≠ 0) (h : runR rest = none) : lists rest = none := by
  rw [lists, if_neg h0]
  split
  · rfl
  · rename_i h1; rw [h] at h1; cases h1
theorem lists_some {rest x r : List UInt8} (h0 : rest.length ≠ 0) (h : runR rest = some (x, r)) : lists rest = match lists r with
    | none => none
    | some l => some (x :: l) := by
  rw [lists, if_neg h0]
  split
  · rename_i h1; rw [h] at h1; cases h1
  · rename_i h1; rw [h] at h1; cases h1; rfl
theorem runR_cases (l : List UInt8) : runR l = none ∨ ∃ b r, runR l = some (b, r) := by
  cases h : runR l with
  | none => exact .inl rfl
  | some p => exact .inr ⟨p.1, p.2, rfl⟩
end Sc
