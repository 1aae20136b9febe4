/- Entries, batches and the book: the functions themselves. -/
import Derived.Test.YtokekdbdnonebaaMf
namespace Sc
open Go
theorem readM_ok {b : List UInt8} {m : Msg} (h : readM b = .ok m) : checkM m = 0 := by
  unfold readM at h
  split at h
  · cases h
  · split at h
    · cases h
    · split at h
      · cases h
      · split at h
        · cases h
        · rename_i h1
          cases h
          exact Decidable.not_not.1 h1
structure MsgBd (m : Msg) : Prop where
  who : 0 ≤ m.who ∧ m.who ≤ 1099511627776
  height : 0 ≤ m.height ∧ m.height ≤ 1099511627776
  round : 0 ≤ m.round ∧ m.round ≤ 1099511627776
  valid : 0 ≤ m.valid ∧ m.valid ≤ 1099511627776
  num : 0 ≤ m.num ∧ m.num ≤ 1099511627776
  ids : m.ids.length ≤ 64
  list : m.list.length ≤ 64
  data : m.data.length ≤ 131072
  each : ∀ x ∈ m.list, x.length ≤ 131072
theorem sizeF_each : ∀ {l : List (List UInt8)} {s : Nat}, sizeF l s = 0 → ∀ x ∈ l, x.length ≤ 131072
  | b :: l, s, h, x, hx => by
    unfold sizeF at h
    split at h
    · cases h
    · rename_i hn
      rcases List.mem_cons.1 hx with rfl | hx
      · omega
      · exact sizeF_each h x hx
theorem msgBd {m : Msg} (h : checkM m = 0) : MsgBd m := by
  obtain ⟨h1, h2, h3, h4, h5, h6, h7⟩ := checkM_ok h
  have hn : ∀ n ∈ nums m, 0 ≤ n ∧ n ≤ 1099511627776 := h3
  exact ⟨hn _ (by simp [nums]), hn _ (by simp [nums]), hn _ (by simp [nums]), hn _ (by simp [nums]), hn _ (by simp [nums]), h4, h5, h6, sizeF_each h7⟩
/-- The message of an entry's bytes. -/
def checkE (b : List UInt8) : Except Int Msg := match readM b with
  | .error e => .error e
  | .ok m => if m.kind ≠ 1 ∨ m.num < 1 ∨ m.who > 15 ∨ m.height + m.round + m.valid > 0 ∨ m.id ≠ zID ∨ m.ids.length + m.list.length > 0 then .error 23 else if m.data.length > 256 then .error 2 else .ok m
theorem checkE_err {b : List UInt8} {e : Int} (h : readM b = .error e) : checkE b = .error e := by rw [checkE, h]
theorem checkE_ok {b : List UInt8} {m : Msg} (h : readM b = .ok m) : checkE b = if m.kind ≠ 1 ∨ m.num < 1 ∨ m.who > 15 ∨ m.height + m.round + m.valid > 0 ∨ m.id ≠ zID ∨ m.ids.length + m.list.length > 0 then .error 23 else if m.data.length > 256 then .error 2 else .ok m := by rw [checkE, h]
theorem checkE_read {b : List UInt8} {m : Msg} (h : checkE b = .ok m) : readM b = .ok m := by
  cases hr : readM b with
  | error e => rw [checkE_err hr] at h; cases h
  | ok m' =>
    rw [checkE_ok hr] at h
    split at h
    · cases h
    · split at h
      · cases h
      · cases h; rfl
def eM (who num : Int) (text : List UInt8) : Msg := ⟨1, who, 0, 0, 0, num, zID, text, [], []⟩
def entryE (who num : Int) (text : List UInt8) : Except Int (List UInt8) :=
  if checkM (eM who num text) ≠ 0 then .error (checkM (eM who num text)) else match checkE (writeM (eM who num text)) with
    | .error e => .error e
    | .ok _ => .ok (writeM (eM who num text))
def jM (xs : List (List UInt8)) : Msg := ⟨2, 0, 0, 0, 0, 0, zID, [], [], xs⟩
/-- The bytes of a batch. -/
def joinB (xs : List (List UInt8)) : Except Int (List UInt8) := if xs.length > 8 then .error 2 else if checkM (jM xs) ≠ 0 then .error (checkM (jM xs)) else .ok (writeM (jM xs))
def splitM (e : Int) (m : Msg) : List (List UInt8) := if e ≠ 0 ∨ m.kind ≠ 2 ∨ m.list.length > 8 then [] else m.list
def splitB (b : List UInt8) : List (List UInt8) := match readM b with
  | .ok m => splitM 0 m
  | .error _ => []
/-- A book: its entries, where they stand, its tree, and its heads. -/
structure Bk where
  list : List (List UInt8)
  whr : List ((Int × Int) × Int)
  tree : TS
  heads : List (Int × Int × ID)
def zBk : Bk := ⟨[], [], (0, []), []⟩
def addB (k : Bk) (m : Msg) (x : List UInt8) : Bk := ⟨k.list ++ [x], mset k.whr (m.who, m.num) k.list.length, addT k.tree (leafB x), k.heads⟩
def applyL : List (List UInt8) → Bk → Bk
  | [], k => k
  | x :: r, k => match checkE x with
    | .error _ => applyL r k
    | .ok m => if (mget k.whr (m.who, m.num)).isSome then applyL r k else if k.list.length = 1000 then k else applyL r (addB k m x)
def headB (k : Bk) : Bk := { k with heads := k.heads ++ [((k.heads.length : Int) + 1, (k.list.length : Int), rootT k.tree)] }
def applyB (b : List UInt8) (k : Bk) : Bk := headB (applyL (splitB b) k)
theorem applyL_err {x : List UInt8} {r : List (List UInt8)} {k : Bk} {e : Int} (h : checkE x = .error e) : applyL (x :: r) k = applyL r k := by rw [applyL, h]
theorem applyL_ok {x : List UInt8} {r : List (List UInt8)} {k : Bk} {m : Msg} (h : checkE x = .ok m) : applyL (x :: r) k = if (mget k.whr (m.who, m.num)).isSome then applyL r k else if k.list.length = 1000 then k else applyL r (addB k m x) := by rw [applyL, h]
/-- What is sure of a book. -/
structure Bk.ok (k : Bk) : Prop where
  tree : k.tree.ok
  size : k.tree.1 = k.list.length
  room : k.list.length ≤ 1000
theorem addB_ok {k : Bk} (h : k.ok) (hr : k.list.length < 1000) (m : Msg) (x : List UInt8) : (addB k m x).ok := ⟨addT_ok h.tree _, by show k.tree.1 + 1 = (k.list ++ [x]).length; simp [h.size], by simp [addB]; omega⟩
theorem headB_ok {k : Bk} (h : k.ok) : (headB k).ok := ⟨h.tree, h.size, h.room⟩
theorem zBk_ok : zBk.ok := ⟨by simp [TS.ok, zBk, pop_zero], rfl, by simp [zBk]⟩
theorem applyL_keep (l : List (List UInt8)) : ∀ (k : Bk), k.ok → (applyL l k).ok ∧ k.list <+: (applyL l k).list ∧ (applyL l k).heads = k.heads := by
  induction l with
  | nil => intro k h; exact ⟨h, List.prefix_refl _, rfl⟩
  | cons x r ih =>
    intro k h
    cases hc : checkE x with
    | error e => rw [applyL_err hc]; exact ih k h
    | ok m =>
      rw [applyL_ok hc]
      split
      · exact ih k h
      · split
        · exact ⟨h, List.prefix_refl _, rfl⟩
        · rename_i h1 h2
          obtain ⟨e1, e2, e3⟩ := ih (addB k m x) (addB_ok h (by have := h.room; omega) m x)
          exact ⟨e1, (List.prefix_append _ _).trans e2, e3⟩
theorem drop_next {α : Type} {l : List α} {i : Nat} {x : α} (h : l[i]? = some x) : l.drop i = x :: l.drop (i + 1) := drop_cons h
def hdC (h : Int × Int × ID) : List Value := .int .i64 h.1 :: .int .i64 h.2.1 :: h.2.2.cs
theorem hdC_len (l : List (Int × Int × ID)) : (l.flatMap hdC).length = l.length * 34 := by
  induction l with
  | nil => rfl
  | cons a l ih => rw [List.flatMap_cons, List.length_append, ih, hdC, List.length_cons, List.length_cons, ID.cs_length, List.length_cons]; omega
end Sc
