/- Messages as bytes: the functions themselves. -/
import Derived.Test.YtokekdbdnonebaaMb
import Derived.Test.YtokekdbdnonebaaEngQ
namespace Sc
open Go
/-- A number's bytes, the highest first. -/
def numB (n : Nat) : List UInt8 := if h : n = 0 then [] else numB (n / 2 ^ 8) ++ [UInt8.ofNat n]
termination_by n
decreasing_by omega
theorem numB_zero : numB 0 = [] := by unfold numB; simp
theorem numB_pos {n : Nat} (h : 0 < n) : numB n = numB (n / 2 ^ 8) ++ [UInt8.ofNat n] := by rw [numB, dif_neg (by omega)]
theorem numB_length : ∀ (k n : Nat), n < 256 ^ k → (numB n).length ≤ k
  | 0, n, h => by
    have : n = 0 := by simpa using h
    subst this; rw [numB_zero]; simp
  | k + 1, n, h => by
    by_cases h0 : n = 0
    · subst h0; rw [numB_zero]; simp
    · rw [numB_pos (by omega)]
      have := numB_length k (n / 2 ^ 8) (by rw [Nat.pow_succ] at h; omega)
      simp; omega
/-- Bytes with how many they are, ahead. -/
def runB (b : List UInt8) : List UInt8 := [UInt8.ofNat (b.length / 2 ^ 16), UInt8.ofNat (b.length / 2 ^ 8), UInt8.ofNat b.length] ++ b
/-- A message. -/
structure Msg where
  kind : Int
  who : Int
  height : Int
  round : Int
  valid : Int
  num : Int
  id : ID
  data : List UInt8
  ids : List ID
  list : List (List UInt8)
  deriving DecidableEq
/-- Its cells. -/
abbrev mS (m : Msg) (dv iv lv : Value) : List Seg := [.one (.int .i64 m.kind), .one (.int .i64 m.who), .one (.int .i64 m.height), .one (.int .i64 m.round), .one (.int .i64 m.valid), .one (.int .i64 m.num), .row 32 m.id.cs, .one dv, .one iv, .one lv]
structure IsM (B : PH) (m : Msg) (dv iv lv : Value) : Prop where
  data : IsB B dv m.data
  ids : IsIDs B iv m.ids
  list : IsBB B lv m.list
theorem IsM.mono {B B' : PH} {m : Msg} {dv iv lv : Value} (h : IsM B m dv iv lv) (l : B.le B') : IsM B' m dv iv lv := ⟨h.data.mono l, h.ids.mono l, h.list.mono l⟩
def nums (m : Msg) : List Int := [m.who, m.height, m.round, m.valid, m.num]
def sizeF : List (List UInt8) → Nat → Int
  | [], _ => 0
  | b :: l, s => if b.length > 131072 ∨ s + b.length > 131072 then 2 else sizeF l (s + b.length)
/-- Can a message be written? -/
def checkM (m : Msg) : Int :=
  if m.kind < 1 ∨ m.kind > 31 then 21
  else if ∃ n ∈ nums m, n < 0 ∨ n > 1099511627776 then 1
  else if m.ids.length > 64 ∨ m.list.length > 64 ∨ m.data.length > 131072 then 2
  else sizeF m.list m.data.length
/-- So much is sure of a message in memory. -/
structure Small (m : Msg) : Prop where
  data : m.data.length < 4611686018427387904
  list : ∀ x ∈ m.list, x.length < 4611686018427387904
theorem drop_cons {α : Type} {l : List α} {k : Nat} {x : α} (h : l[k]? = some x) : l.drop k = x :: l.drop (k + 1) := by
  obtain ⟨h1, h2⟩ := List.getElem?_eq_some_iff.1 h
  rw [List.drop_eq_getElem_cons h1, h2]
/-! ### What a message's fields are -/
def fN (m : Msg) : Nat → List (UInt8 × List UInt8)
  | 0 => []
  | k + 1 => fN m k ++ if (nums m).getD k 0 ≠ 0 then [(UInt8.ofNat (k + 1), numB ((nums m).getD k 0).toNat)] else []
def f6 (m : Msg) : List (UInt8 × List UInt8) := fN m 5 ++ if m.id ≠ zID then [(6, m.id.bs)] else []
def f7 (m : Msg) : List (UInt8 × List UInt8) := f6 m ++ if 0 < m.data.length then [(7, m.data)] else []
def f8 (m : Msg) : List (UInt8 × List UInt8) := f7 m ++ if 0 < m.ids.length then [(8, m.ids.flatMap ID.bs)] else []
def fieldsM (m : Msg) : List (UInt8 × List UInt8) := f8 m ++ if 0 < m.list.length then [(9, m.list.flatMap runB)] else []
theorem fN_pre (m : Msg) : ∀ {k j : Nat}, k ≤ j → fN m k <+: fN m j
  | k, 0, h => by have : k = 0 := by omega
                  subst this; exact List.prefix_refl _
  | k, j + 1, h => by
    by_cases e : k = j + 1
    · subst e; exact List.prefix_refl _
    · exact (fN_pre m (by omega : k ≤ j)).trans (by rw [fN]; exact List.prefix_append _ _)
theorem f6_pre (m : Msg) : f6 m <+: fieldsM m := ((List.prefix_append _ _).trans (List.prefix_append _ _)).trans (List.prefix_append _ _)
theorem f7_pre (m : Msg) : f7 m <+: fieldsM m := (List.prefix_append _ _).trans (List.prefix_append _ _)
theorem f8_pre (m : Msg) : f8 m <+: fieldsM m := List.prefix_append _ _
theorem f5_pre (m : Msg) : fN m 5 <+: fieldsM m := (List.prefix_append _ _).trans (f6_pre m)
theorem get_pre {α : Type} {p l : List α} {x : α} (h : p ++ [x] <+: l) : l[p.length]? = some x := by
  obtain ⟨t, rfl⟩ := h
  rw [List.append_assoc, List.getElem?_append_right (Nat.le_refl _)]; simp
theorem get_lt {α : Type} {l : List α} {i : Nat} {x : α} (h : l[i]? = some x) : i < l.length := (List.getElem?_eq_some_iff.1 h).1
theorem fN_get {m : Msg} {k : Nat} (hk : k < 5) (h : (nums m).getD k 0 ≠ 0) : (fieldsM m)[(fN m k).length]? = some (UInt8.ofNat (k + 1), numB ((nums m).getD k 0).toNat) := by
  refine get_pre (List.IsPrefix.trans ?_ (f5_pre m))
  have := fN_pre m (show k + 1 ≤ 5 by omega)
  rwa [fN, if_pos h] at this
theorem f6_get {m : Msg} (h : m.id ≠ zID) : (fieldsM m)[(fN m 5).length]? = some (6, m.id.bs) := by
  have := f6_pre m; rw [f6, if_pos h] at this; exact get_pre this
theorem f7_get {m : Msg} (h : 0 < m.data.length) : (fieldsM m)[(f6 m).length]? = some (7, m.data) := by
  have := f7_pre m; rw [f7, if_pos h] at this; exact get_pre this
theorem f8_get {m : Msg} (h : 0 < m.ids.length) : (fieldsM m)[(f7 m).length]? = some (8, m.ids.flatMap ID.bs) := by
  have := f8_pre m; rw [f8, if_pos h] at this; exact get_pre this
theorem f9_get {m : Msg} (h : 0 < m.list.length) : (fieldsM m)[(f8 m).length]? = some (9, m.list.flatMap runB) := by
  have := List.prefix_refl (fieldsM m); rw [fieldsM, if_pos h] at this; rw [fieldsM, if_pos h]; exact get_pre this
theorem checkM_ok {m : Msg} (h : checkM m = 0) : 1 ≤ m.kind ∧ m.kind ≤ 31 ∧ (∀ n ∈ nums m, 0 ≤ n ∧ n ≤ 1099511627776) ∧ m.ids.length ≤ 64 ∧ m.list.length ≤ 64 ∧ m.data.length ≤ 131072 ∧ sizeF m.list m.data.length = 0 := by
  unfold checkM at h
  split at h
  · cases h
  · split at h
    · cases h
    · split at h
      · cases h
      · rename_i h1 h2 h3
        refine ⟨by omega, by omega, fun n hn => ?_, by omega, by omega, by omega, h⟩
        have : ¬ (n < 0 ∨ n > 1099511627776) := fun h' => h2 ⟨n, hn, h'⟩
        omega
theorem sizeF_ok : ∀ {l : List (List UInt8)} {s : Nat}, sizeF l s = 0 → s ≤ 131072 → s + l.flatten.length ≤ 131072
  | [], s, _, hs => by simpa using hs
  | b :: l, s, h, hs => by
    rw [sizeF] at h
    split at h
    · cases h
    · have := sizeF_ok h (by omega)
      simp only [List.flatten_cons, List.length_append]; omega
theorem runs_length : ∀ l : List (List UInt8), (l.flatMap runB).length = 3 * l.length + l.flatten.length
  | [] => rfl
  | b :: l => by
    have := runs_length l
    simp only [List.flatMap_cons, List.length_append, List.flatten_cons, List.length_cons, this]
    simp only [runB, List.length_append, List.length_cons, List.length_nil]; omega
theorem idsB_length : ∀ l : List ID, (l.flatMap ID.bs).length = 32 * l.length
  | [] => rfl
  | a :: l => by
    have := idsB_length l
    simp only [List.flatMap_cons, List.length_append, List.length_cons, this, a.len]; omega
theorem cs_flat : ∀ l : List ID, l.flatMap ID.cs = cBs (l.flatMap ID.bs)
  | [] => rfl
  | a :: l => by simp only [List.flatMap_cons, cs_flat l, cBs_append]; rfl
theorem mS_id {B : PH} {b : Nat} {m : Msg} {dv iv lv : Value} (h : prow B b 0 (flat (mS m dv iv lv))) : prow B b (0 + 6) (flat [.row 32 m.id.cs]) := by
  have := h.sub 6 32 (by simp [flat, Seg.cells, ID.cs_length])
  have e : ((flat (mS m dv iv lv)).drop 6).take 32 = flat [.row 32 m.id.cs] := by
    simp only [flat, Seg.cells, List.cons_append, List.nil_append, List.drop_succ_cons, List.drop_zero, List.append_nil]
    rw [List.take_append_of_le_length (by rw [ID.cs_length]; exact Nat.le_refl _), List.take_of_length_le (by rw [ID.cs_length]; exact Nat.le_refl _)]
  rwa [e] at this
theorem mS_cell {B : PH} {b : Nat} {m : Msg} {dv iv lv : Value} (h : prow B b 0 (flat (mS m dv iv lv))) : pcell B b (0 + 38) dv ∧ pcell B b (0 + 39) iv ∧ pcell B b (0 + 40) lv := by
  have hl := m.id.cs_length
  refine ⟨h.cell ?_, h.cell ?_, h.cell ?_⟩ <;>
    · simp only [flat, Seg.cells, List.cons_append, List.nil_append, List.append_nil, List.getElem?_cons_succ]
      rw [List.getElem?_append_right (by omega), hl]; rfl
theorem ids_sub : ∀ {l : List ID} {j : Nat} {a : ID}, l[j]? = some a → ((l.flatMap ID.cs).drop (j * 32)).take 32 = a.cs ∧ j * 32 + 32 ≤ (l.flatMap ID.cs).length
  | b :: l, 0, a, h => by
    simp at h; subst h
    simp only [List.flatMap_cons, Nat.zero_mul, List.drop_zero]
    rw [List.take_append_of_le_length (by rw [ID.cs_length]; exact Nat.le_refl _), List.take_of_length_le (by rw [ID.cs_length]; exact Nat.le_refl _)]
    exact ⟨rfl, by simp [ID.cs_length]⟩
  | b :: l, j + 1, a, h => by
    simp at h
    obtain ⟨h1, h2⟩ := ids_sub h
    simp only [List.flatMap_cons, List.length_append, ID.cs_length]
    rw [List.drop_append, List.drop_of_length_le (by rw [ID.cs_length]; omega), List.nil_append, ID.cs_length, show (j + 1) * 32 - 32 = j * 32 by omega]
    exact ⟨h1, by omega⟩
theorem take_succ {α : Type} {l : List α} {k : Nat} {x : α} (h : l[k]? = some x) : l.take (k + 1) = l.take k ++ [x] := by
  obtain ⟨h1, h2⟩ := List.getElem?_eq_some_iff.1 h
  rw [List.take_succ_eq_append_getElem h1, h2]
/-- A field as it is written. -/
def putF (f : UInt8 × List UInt8) : List UInt8 := f.1 :: runB f.2
/-- What is written of a message, but so many fields. -/
def outM (m : Msg) (i : Nat) : List UInt8 := UInt8.ofNat m.kind.toNat :: ((fieldsM m).take i).flatMap putF
def writeM (m : Msg) : List UInt8 := UInt8.ofNat m.kind.toNat :: (fieldsM m).flatMap putF
theorem outM_all (m : Msg) : outM m (fieldsM m).length = writeM m := by rw [outM, List.take_length, writeM]
theorem outM_next {m : Msg} {i : Nat} {tag : UInt8} {d : List UInt8} (h : (fieldsM m)[i]? = some (tag, d)) : outM m (i + 1) = outM m i ++ [tag] ++ runB d := by
  rw [outM, take_succ h, List.flatMap_append, outM]; simp [putF]
theorem runB_length (d : List UInt8) : (runB d).length = 3 + d.length := by simp [runB]; omega
theorem fields_small {m : Msg} (h : checkM m = 0) : ∀ f ∈ fieldsM m, f.2.length ≤ 131400 := by
  obtain ⟨h1, h2, h3, h4, h5, h6, h7⟩ := checkM_ok h
  have ht := sizeF_ok h7 h6
  have hN : ∀ k, k ≤ 5 → ∀ f ∈ fN m k, f.2.length ≤ 131400 := fun k => by
    induction k with
    | zero => intro _ f hf; cases hf
    | succ k ih =>
      intro hk f hf
      rw [fN] at hf
      rcases List.mem_append.1 hf with hf | hf
      · exact ih (by omega) f hf
      · split at hf
        · obtain rfl := List.mem_singleton.1 hf
          have hb := h3 ((nums m).getD k 0) (by rw [List.getD_eq_getElem?_getD, List.getElem?_eq_getElem (by show k < 5; omega)]; exact List.getElem_mem _)
          have := numB_length 8 ((nums m).getD k 0).toNat (by omega)
          simp only; omega
        · cases hf
  intro f hf
  simp only [fieldsM, f8, f7, f6, List.mem_append] at hf
  rcases hf with (((hf | hf) | hf) | hf) | hf
  · exact hN 5 (Nat.le_refl _) f hf
  · split at hf
    · simp at hf; subst hf; simp [m.id.len]
    · cases hf
  · split at hf
    · simp at hf; subst hf; simp only; omega
    · cases hf
  · split at hf
    · simp at hf; subst hf; simp only [idsB_length]; omega
    · cases hf
  · split at hf
    · simp at hf; subst hf
      have := runs_length m.list
      simp only; omega
    · cases hf
theorem fields_few (m : Msg) : (fieldsM m).length ≤ 9 := by
  have hN : ∀ k, (fN m k).length ≤ k := fun k => by
    induction k with
    | zero => simp [fN]
    | succ k ih => rw [fN, List.length_append]; split <;> simp <;> omega
  have := hN 5
  simp only [fieldsM, f8, f7, f6, List.length_append]
  split <;> split <;> split <;> split <;> simp <;> omega
theorem outM_length {m : Msg} (h : checkM m = 0) (i : Nat) : (outM m i).length ≤ 1300000 := by
  have key : ∀ l : List (UInt8 × List UInt8), (∀ f ∈ l, f.2.length ≤ 131400) → (l.flatMap putF).length ≤ 131404 * l.length := fun l => by
    induction l with
    | nil => intro _; simp
    | cons f l ih =>
      intro hl
      have h1 := ih fun g hg => hl g (List.mem_cons_of_mem _ hg)
      have h2 := hl f List.mem_cons_self
      simp only [List.flatMap_cons, List.length_append, List.length_cons, putF, runB_length]; omega
  have h1 := key ((fieldsM m).take i) fun f hf => fields_small h f (List.mem_of_mem_take hf)
  have h2 := fields_few m
  have h3 : ((fieldsM m).take i).length ≤ 9 := by rw [List.length_take]; omega
  rw [outM, List.length_cons]; omega
section
variable {P : Program} {E : Env} {B : PH} {L : List Asrt}
theorem y_cvIB {s t ty : TypeId} {x : Operand} {k : IntKind} {m : Int} {d : TypeDesc} [TyU P s d] [TyU P t (.int .u8)] (h0 : 0 ≤ m) (hx : ev E x = some (.int k m)) : Yld P (.convert s t x) ty E B L (cB (UInt8.ofNat m.toNat)) :=
  y_cvNB (m := m.toNat) (by rw [Int.toNat_of_nonneg h0]; exact hx)
end
/-! ### Reading -/
def runLen (l : List UInt8) : Nat := ((gB l 0).toNat * 2 ^ 16 ||| (gB l 1).toNat * 2 ^ 8) ||| (gB l 2).toNat
theorem u8_lt (b : UInt8) : b.toNat < 256 := b.toBitVec.isLt
theorem runLen_lt (l : List UInt8) : runLen l < 16777216 := by
  have h0 := u8_lt (gB l 0); have h1 := u8_lt (gB l 1); have h2 := u8_lt (gB l 2)
  exact Nat.or_lt_two_pow (n := 24) (Nat.or_lt_two_pow (n := 24) (by omega) (by omega)) (by omega)
/-- The next run of bytes, and what is left. -/
def runR (l : List UInt8) : Option (List UInt8 × List UInt8) := if l.length < 3 then none else if runLen l > l.length - 3 then none else some ((l.drop 3).take (runLen l), l.drop (3 + runLen l))
/-- Part of what lies on the pile. -/
theorem prow.mid {B : PH} {b o : Nat} {l : List UInt8} (h : prow B b o (cBs l)) (i m : Nat) (hm : i + m ≤ l.length) : prow B b (o + i) (cBs ((l.drop i).take m)) := by
  have := h.sub i m (by rw [cBs_length]; exact hm)
  rwa [show ((cBs l).drop i).take m = cBs ((l.drop i).take m) by simp [cBs, List.map_drop, List.map_take]] at this
theorem IsB.sl {B : PH} {b o len c i j : Nat} {l : List UInt8} (h : IsB B (.slice (some ⟨b, o, none⟩) len c) l) (hij : i ≤ j) (hj : j ≤ l.length) :
    IsB B (.slice (some (if c = i then (⟨b, o, none⟩ : Addr) else ⟨b, o + i * 1, none⟩)) (j - i) (c - i)) ((l.drop i).take (j - i)) := by
  obtain ⟨a, c', e, h1, h2⟩ := h
  simp only [Value.slice.injEq] at e
  obtain ⟨rfl, rfl, rfl⟩ := e
  have hl : ((l.drop i).take (j - i)).length = j - i := by simp; omega
  refine ⟨_, _, by rw [hl], by rw [hl]; omega, fun hne => ?_⟩
  have hpos : 0 < j - i := by
    rcases Nat.eq_zero_or_pos (j - i) with h0 | h0
    · rw [h0] at hne; simp [cBs] at hne
    · exact h0
  obtain ⟨b', o', e, h3⟩ := h2 (by intro e; have := congrArg List.length e; rw [cBs_length] at this; simp at this; rw [this] at hj; simp at hj; omega)
  simp only [Option.some.injEq, Addr.mk.injEq, and_true] at e
  obtain ⟨rfl, rfl⟩ := e
  rw [if_neg (by omega)]
  exact ⟨b, o + i * 1, rfl, by rw [Nat.mul_one]; exact h3.mid i (j - i) (by omega)⟩
theorem IsB.drop {B : PH} {b o len c i : Nat} {l : List UInt8} (h : IsB B (.slice (some ⟨b, o, none⟩) len c) l) (hi : i ≤ l.length) :
    IsB B (.slice (some (if c = i then (⟨b, o, none⟩ : Addr) else ⟨b, o + i * 1, none⟩)) (len - i) (c - i)) (l.drop i) := by
  have hlen : len = l.length := by obtain ⟨a, c', e, _⟩ := h; simp at e; exact e.2.1
  have := h.sl hi (Nat.le_refl _)
  rw [hlen]
  rwa [List.take_of_length_le (by simp)] at this
theorem IsB.row {B : PH} {v : Value} {l : List UInt8} (h : IsB B v l) (hl : 0 < l.length) : ∃ b o c, v = .slice (some ⟨b, o, none⟩) l.length c ∧ l.length ≤ c ∧ prow B b o (cBs l) := by
  obtain ⟨a, c, rfl, h1, h2⟩ := h
  obtain ⟨b, o, rfl, h3⟩ := h2 (by intro e; have := congrArg List.length e; rw [cBs_length] at this; simp at this; rw [this] at hl; simp at hl)
  exact ⟨b, o, c, rfl, h1, h3⟩
/-- A number out of bytes. -/
def foldN : List UInt8 → Nat → Nat
  | [], n => n
  | x :: l, n => foldN l (n * 2 ^ 8 ||| x.toNat)
def numR (b : List UInt8) : Nat := if gB b 0 = 0 then 0 else foldN (b.take 6) 0
def numBad (b : List UInt8) : Prop := b.length = 0 ∨ gB b 0 = 0 ∨ b.length > 6 ∨ numR b > 1099511627776
instance (b : List UInt8) : Decidable (numBad b) := by unfold numBad; exact inferInstance
theorem foldN_snoc : ∀ (l : List UInt8) (x : UInt8) (n : Nat), foldN (l ++ [x]) n = foldN l n * 2 ^ 8 ||| x.toNat
  | [], x, n => rfl
  | y :: l, x, n => by simp only [List.cons_append, foldN]; exact foldN_snoc l x _
theorem foldN_next {b : List UInt8} {i : Nat} (h : i < b.length) : foldN (b.take (i + 1)) 0 = foldN (b.take i) 0 * 2 ^ 8 ||| (gB b i).toNat := by
  rw [List.take_succ_eq_append_getElem h, foldN_snoc]
  simp [gB, List.getElem?_eq_getElem h]
theorem foldN_lt : ∀ (l : List UInt8), foldN l 0 < 2 ^ (8 * l.length) := by
  have key : ∀ (l : List UInt8) (n k : Nat), n < 2 ^ k → foldN l n < 2 ^ (k + 8 * l.length) := fun l => by
    induction l with
    | nil => intro n k h; simpa [foldN] using h
    | cons x l ih =>
      intro n k h
      have hx := u8_lt x
      have h1 : n * 2 ^ 8 ||| x.toNat < 2 ^ (k + 8) := by
        refine Nat.or_lt_two_pow ?_ (Nat.lt_of_lt_of_le hx ?_)
        · rw [Nat.pow_add]; exact Nat.mul_lt_mul_of_pos_right h (by decide)
        · rw [Nat.pow_add]; have := Nat.two_pow_pos k; omega
      have := ih _ _ h1
      rw [foldN, List.length_cons, show k + 8 * (l.length + 1) = k + 8 + 8 * l.length by omega]; exact this
  intro l
  have := key l 0 0 (by decide)
  simpa using this
theorem u8_zero {x : UInt8} : ((x.toNat : Nat) : Int) = 0 ↔ x = 0 := by
  constructor
  · intro h; exact UInt8.toNat_inj.1 (by simpa using h)
  · intro h; subst h; rfl
end Sc
