/- What is written is read. -/
import Derived.Test.YtokekdbdnonebaaMh
namespace Sc
open Go
theorem or_add {a b i : Nat} (h : b < 2 ^ i) : a * 2 ^ i ||| b = a * 2 ^ i + b := by
  have := Nat.shiftLeft_add_eq_or_of_lt h a
  rw [Nat.shiftLeft_eq] at this
  exact this.symm
theorem gB_cons (x : UInt8) (l : List UInt8) (i : Nat) : gB (x :: l) (i + 1) = gB l i := by simp [gB]
theorem gB_zero (x : UInt8) (l : List UInt8) : gB (x :: l) 0 = x := by simp [gB]
theorem runLen_runB {d r : List UInt8} (h : d.length < 16777216) : runLen (runB d ++ r) = d.length := by
  have e : runB d ++ r = UInt8.ofNat (d.length / 2 ^ 16) :: UInt8.ofNat (d.length / 2 ^ 8) :: UInt8.ofNat d.length :: (d ++ r) := rfl
  rw [runLen, e, gB_zero, gB_cons, gB_zero, gB_cons, gB_cons, gB_zero]
  simp only [UInt8.toNat_ofNat']
  have h1 : d.length / 2 ^ 16 % 2 ^ 8 = d.length / 2 ^ 16 := Nat.mod_eq_of_lt (by omega)
  rw [h1]
  have e1 : d.length / 2 ^ 16 * 2 ^ 16 ||| d.length / 2 ^ 8 % 2 ^ 8 * 2 ^ 8 = d.length / 2 ^ 16 * 2 ^ 16 + d.length / 2 ^ 8 % 2 ^ 8 * 2 ^ 8 := or_add (by omega)
  rw [e1, show d.length / 2 ^ 16 * 2 ^ 16 + d.length / 2 ^ 8 % 2 ^ 8 * 2 ^ 8 = (d.length / 2 ^ 8) * 2 ^ 8 by omega, or_add (by omega)]
  omega
theorem runR_runB {d r : List UInt8} (h : d.length < 16777216) : runR (runB d ++ r) = some (d, r) := by
  have hl := runLen_runB (r := r) h
  have hlen : (runB d ++ r).length = 3 + d.length + r.length := by rw [List.length_append, runB_length]
  rw [runR, if_neg (by omega), if_neg (by omega), hl]
  have e : runB d ++ r = [UInt8.ofNat (d.length / 2 ^ 16), UInt8.ofNat (d.length / 2 ^ 8), UInt8.ofNat d.length] ++ (d ++ r) := by simp [runB]
  rw [e]
  have e1 : ([UInt8.ofNat (d.length / 2 ^ 16), UInt8.ofNat (d.length / 2 ^ 8), UInt8.ofNat d.length] ++ (d ++ r)).drop (3 + d.length) = r := by
    rw [← List.drop_drop]; simp
  have e2 : ([UInt8.ofNat (d.length / 2 ^ 16), UInt8.ofNat (d.length / 2 ^ 8), UInt8.ofNat d.length] ++ (d ++ r)).drop 3 = d ++ r := rfl
  rw [e1, e2, List.take_left]
theorem nextF_putF {last tag : UInt8} {d r : List UInt8} (h1 : last < tag) (h2 : tag ≤ 9) (h : d.length < 16777216) : nextF last (putF (tag, d) ++ r) = .item tag d r := by
  have e : putF (tag, d) ++ r = tag :: (runB d ++ r) := rfl
  rw [nextF, e, if_neg (by simp), if_neg, List.drop_one, List.tail_cons, runR_runB h, gB_zero]
  rw [gB_zero]
  rintro (h3 | h3)
  · exact absurd h1 (UInt8.not_lt.2 h3)
  · exact absurd h2 (UInt8.not_le.2 h3)
/-- Fields, one behind the other. -/
def stepsM (m : Msg) : List (UInt8 × List UInt8) → Except Int Msg
  | [] => .ok m
  | f :: fs => match stepM m f.1 f.2 with
    | .error e => .error e
    | .ok m' => stepsM m' fs
theorem stepsM_append {m m' : Msg} {fs gs : List (UInt8 × List UInt8)} (h : stepsM m fs = .ok m') : stepsM m (fs ++ gs) = stepsM m' gs := by
  induction fs generalizing m with
  | nil => cases h; rfl
  | cons f fs ih =>
    simp only [stepsM, List.cons_append] at h ⊢
    cases hs : stepM m f.1 f.2 with
    | error e => rw [hs] at h; cases h
    | ok m2 => rw [hs] at h; exact ih h
def rising (last : UInt8) : List (UInt8 × List UInt8) → Prop
  | [] => True
  | f :: fs => last < f.1 ∧ f.1 ≤ 9 ∧ f.2.length < 16777216 ∧ rising f.1 fs
theorem readF_fields : ∀ (fs : List (UInt8 × List UInt8)) (m : Msg) (last : UInt8), rising last fs → readF m last (fs.flatMap putF) = stepsM m fs
  | [], m, last, _ => by rw [readF_done (by rw [nextF, if_pos (by simp)])]; rfl
  | f :: fs, m, last, ⟨h1, h2, h3, h4⟩ => by
    have hn : nextF last ((f :: fs).flatMap putF) = .item f.1 f.2 (fs.flatMap putF) := by rw [List.flatMap_cons]; exact nextF_putF h1 h2 h3
    rw [readF_item hn, stepsM]
    cases stepM m f.1 f.2 with
    | error e => rfl
    | ok m' => exact readF_fields fs m' f.1 h4
/-- Numbers. -/
theorem numB_head {n : Nat} (h : 0 < n) : gB (numB n) 0 ≠ 0 ∧ 0 < (numB n).length := by
  induction n using Nat.strongRecOn with
  | _ n ih =>
    rw [numB_pos h]
    by_cases h8 : n / 2 ^ 8 = 0
    · rw [h8, numB_zero]
      refine ⟨?_, by simp⟩
      simp only [List.nil_append, gB_zero]
      intro e
      have := congrArg UInt8.toNat e
      simp only [UInt8.toNat_ofNat'] at this
      have h2 : n % 2 ^ 8 = 0 := this
      omega
    · obtain ⟨h1, h2⟩ := ih (n / 2 ^ 8) (by omega) (by omega)
      refine ⟨?_, by simp⟩
      have : gB (numB (n / 2 ^ 8) ++ [UInt8.ofNat n]) 0 = gB (numB (n / 2 ^ 8)) 0 := by
        simp only [gB, List.getD_eq_getElem?_getD, List.getElem?_append_left h2]
      rw [this]; exact h1
theorem foldN_numB (n : Nat) : foldN (numB n) 0 = n := by
  induction n using Nat.strongRecOn with
  | _ n ih =>
    by_cases h : n = 0
    · subst h; rw [numB_zero]; rfl
    · rw [numB_pos (by omega), foldN_snoc, ih _ (by omega), UInt8.toNat_ofNat', or_add (by omega)]
      omega
theorem numR_numB {n : Nat} (h : 0 < n) (h2 : n ≤ 1099511627776) : numR (numB n) = n ∧ ¬ numBad (numB n) := by
  obtain ⟨h3, h4⟩ := numB_head h
  have h5 := numB_length 6 n (by omega)
  have e : numR (numB n) = n := by rw [numR, if_neg h3, List.take_of_length_le h5, foldN_numB]
  refine ⟨e, ?_⟩
  rintro (h6 | h6 | h6 | h6)
  · omega
  · exact h3 h6
  · omega
  · omega
theorem chunks_bs : ∀ (ids : List ID), chunks (ids.flatMap ID.bs) = ids
  | [] => chunks_nil (by simp)
  | a :: ids => by
    have hl : (a.bs ++ ids.flatMap ID.bs).length = 32 + (ids.flatMap ID.bs).length := by rw [List.length_append, a.len]
    rw [List.flatMap_cons, chunks_cons (by omega), List.take_append_of_le_length (by rw [a.len]; exact Nat.le_refl _), List.take_of_length_le (by rw [a.len]; exact Nat.le_refl _),
      List.drop_append_of_le_length (by rw [a.len]; exact Nat.le_refl _), List.drop_of_length_le (by rw [a.len]; exact Nat.le_refl _), List.nil_append, chunks_bs ids]
    congr 1
    rw [idOf, dif_pos a.len]
theorem lists_runs : ∀ (l : List (List UInt8)), (∀ x ∈ l, x.length < 16777216) → lists (l.flatMap runB) = some l
  | [], _ => lists_nil (by simp)
  | x :: l, h => by
    have hr := runR_runB (r := l.flatMap runB) (h x List.mem_cons_self)
    rw [List.flatMap_cons, lists_some (by rw [List.length_append, runB_length]; omega) hr, lists_runs l fun y hy => h y (List.mem_cons_of_mem _ hy)]
/-- The message with so many numbers. -/
def pM (m : Msg) (k : Nat) : Msg := ⟨m.kind, if 1 ≤ k then m.who else 0, if 2 ≤ k then m.height else 0, if 3 ≤ k then m.round else 0, if 4 ≤ k then m.valid else 0, if 5 ≤ k then m.num else 0, zID, [], [], []⟩
theorem pM_next (m : Msg) (k : Nat) (hk : k < 5) (h : (nums m).getD k 0 = 0) : pM m (k + 1) = pM m k := by
  have : k = 0 ∨ k = 1 ∨ k = 2 ∨ k = 3 ∨ k = 4 := by omega
  rcases this with rfl | rfl | rfl | rfl | rfl <;> (simp [nums] at h; simp [pM, h])
theorem pM_set (m : Msg) (k : Nat) (hk : k < 5) : setNum (pM m k) k ((nums m).getD k 0) = pM m (k + 1) := by
  have : k = 0 ∨ k = 1 ∨ k = 2 ∨ k = 3 ∨ k = 4 := by omega
  rcases this with rfl | rfl | rfl | rfl | rfl <;> simp [nums, pM, setNum]
theorem steps_fN {m : Msg} (hn : ∀ n ∈ nums m, 0 ≤ n ∧ n ≤ 1099511627776) : ∀ k, k ≤ 5 → stepsM (pM m 0) (fN m k) = .ok (pM m k)
  | 0, _ => rfl
  | k + 1, hk => by
    have ih := steps_fN hn k (by omega)
    rw [fN, stepsM_append ih]
    have hb := hn ((nums m).getD k 0) (by rw [List.getD_eq_getElem?_getD, List.getElem?_eq_getElem (by show k < 5; omega)]; exact List.getElem_mem _)
    by_cases h : (nums m).getD k 0 = 0
    · rw [if_neg (fun h2 => h2 h), stepsM, pM_next m k (by omega) h]
    · rw [if_pos h]
      obtain ⟨h1, h2⟩ := numR_numB (n := ((nums m).getD k 0).toNat) (by omega) (by omega)
      have htag : (UInt8.ofNat (k + 1)).toNat = k + 1 := UInt8.toNat_ofNat_of_lt' (by show k + 1 < 256; omega)
      have hs : stepM (pM m k) (UInt8.ofNat (k + 1)) (numB ((nums m).getD k 0).toNat) = .ok (pM m (k + 1)) := by
        rw [step_num (by have := (numB_head (n := ((nums m).getD k 0).toNat) (by omega)).2; omega) (by omega), if_neg h2, htag, h1, Nat.add_sub_cancel, Int.toNat_of_nonneg hb.1, pM_set m k (by omega)]
      simp only [stepsM, hs]
theorem steps_fields {m : Msg} (hc : checkM m = 0) : stepsM (kMsg m.kind) (fieldsM m) = .ok m := by
  obtain ⟨h1, h2, h3, h4, h5, h6, h7⟩ := checkM_ok hc
  have b := msgBd hc
  have s5 := steps_fN h3 5 (Nat.le_refl _)
  have s6 : stepsM (pM m 0) (f6 m) = .ok { pM m 5 with id := m.id } := by
    rw [f6, stepsM_append s5]
    by_cases h : m.id = zID
    · rw [if_neg (fun h2 => h2 h), stepsM, h]; rfl
    · rw [if_pos h]
      have hid : idOf m.id.bs = m.id := by rw [idOf, dif_pos m.id.len]
      have : stepM (pM m 5) 6 m.id.bs = .ok { pM m 5 with id := m.id } := by
        rw [step_6 (by rw [m.id.len]; decide) rfl, if_neg, hid]
        rintro (h2 | h2)
        · exact h2 m.id.len
        · rw [hid] at h2; exact h h2
      simp only [stepsM, this]
  have s7 : stepsM (pM m 0) (f7 m) = .ok { pM m 5 with id := m.id, data := m.data } := by
    rw [f7, stepsM_append s6]
    by_cases h : 0 < m.data.length
    · rw [if_pos h]
      have : stepM { pM m 5 with id := m.id } 7 m.data = .ok { pM m 5 with id := m.id, data := m.data } := by rw [step_7 (by omega) rfl]
      simp only [stepsM, this]
    · have : m.data = [] := List.eq_nil_of_length_eq_zero (by omega)
      rw [if_neg h, stepsM, this]; rfl
  have s8 : stepsM (pM m 0) (f8 m) = .ok { pM m 5 with id := m.id, data := m.data, ids := m.ids } := by
    rw [f8, stepsM_append s7]
    by_cases h : 0 < m.ids.length
    · rw [if_pos h]
      have hl := idsB_length m.ids
      have : stepM { pM m 5 with id := m.id, data := m.data } 8 (m.ids.flatMap ID.bs) = .ok { pM m 5 with id := m.id, data := m.data, ids := m.ids } := by
        rw [step_8 (by omega) rfl, if_neg (by omega), chunks_bs]; rfl
      simp only [stepsM, this]
    · have : m.ids = [] := List.eq_nil_of_length_eq_zero (by omega)
      rw [if_neg h, stepsM, this]; rfl
  have e0 : kMsg m.kind = pM m 0 := rfl
  rw [e0, fieldsM, stepsM_append s8]
  have e5 : { pM m 5 with id := m.id, data := m.data, ids := m.ids, list := m.list } = m := by
    cases m; simp [pM]
  by_cases h : 0 < m.list.length
  · rw [if_pos h]
    have hl := runs_length m.list
    have : stepM { pM m 5 with id := m.id, data := m.data, ids := m.ids } 9 (m.list.flatMap runB) = .ok m := by
      rw [step_9 (by omega) rfl, lists_runs m.list fun x hx => by have := b.each x hx; omega]
      show Except.ok _ = _
      rw [← e5]; rfl
    simp only [stepsM, this]
  · have : m.list = [] := List.eq_nil_of_length_eq_zero (by omega)
    rw [if_neg h, stepsM]
    congr 1
    rw [← e5, this]; rfl
theorem rising_append {fs gs : List (UInt8 × List UInt8)} {last mid : UInt8} (h : rising last fs) (hl : ∀ f ∈ fs, f.1 ≤ mid) (h0 : last ≤ mid) (hg : rising mid gs) : rising last (fs ++ gs) := by
  induction fs generalizing last with
  | nil =>
    cases gs with
    | nil => trivial
    | cons g gs => exact ⟨UInt8.lt_of_le_of_lt h0 hg.1, hg.2.1, hg.2.2.1, hg.2.2.2⟩
  | cons f fs ih => exact ⟨h.1, h.2.1, h.2.2.1, ih h.2.2.2 (fun g hg => hl g (List.mem_cons_of_mem _ hg)) (hl f List.mem_cons_self)⟩
theorem rising_one {last tag : UInt8} {d : List UInt8} {c : Prop} [Decidable c] (h1 : last < tag) (h2 : tag ≤ 9) (h3 : d.length < 16777216) : rising last (if c then [(tag, d)] else []) := by
  split
  · exact ⟨h1, h2, h3, trivial⟩
  · trivial
theorem le_one {tag : UInt8} {d : List UInt8} {c : Prop} [Decidable c] : ∀ f ∈ (if c then [(tag, d)] else []), f.1 ≤ tag := fun f hf => by
  split at hf
  · obtain rfl := List.mem_singleton.1 hf; exact UInt8.le_refl _
  · cases hf
theorem le_app {fs gs : List (UInt8 × List UInt8)} {a b : UInt8} (h1 : ∀ f ∈ fs, f.1 ≤ a) (h2 : ∀ f ∈ gs, f.1 ≤ b) (h : a ≤ b) : ∀ f ∈ fs ++ gs, f.1 ≤ b := fun f hf => by
  rcases List.mem_append.1 hf with hf | hf
  · exact UInt8.le_trans (h1 f hf) h
  · exact h2 f hf
theorem rising_fields {m : Msg} (hc : checkM m = 0) : rising 0 (fieldsM m) := by
  have hs := fields_small hc
  have b := msgBd hc
  have hN : ∀ k, k ≤ 5 → rising 0 (fN m k) ∧ ∀ f ∈ fN m k, f.1 ≤ UInt8.ofNat k := fun k => by
    induction k with
    | zero => intro _; exact ⟨trivial, fun f hf => by cases hf⟩
    | succ k ih =>
      intro hk
      obtain ⟨h1, h2⟩ := ih (by omega)
      have hlt : UInt8.ofNat k < UInt8.ofNat (k + 1) := UInt8.lt_iff_toNat_lt.2 (by rw [UInt8.toNat_ofNat_of_lt' (by show k < 256; omega), UInt8.toNat_ofNat_of_lt' (by show k + 1 < 256; omega)]; omega)
      have hle : UInt8.ofNat (k + 1) ≤ 9 := UInt8.le_iff_toNat_le.2 (by rw [UInt8.toNat_ofNat_of_lt' (by show k + 1 < 256; omega)]; show k + 1 ≤ 9; omega)
      have hb : ((numB ((nums m).getD k 0).toNat)).length < 16777216 := by
        obtain ⟨h3, h4⟩ : 0 ≤ (nums m).getD k 0 ∧ (nums m).getD k 0 ≤ 1099511627776 := (checkM_ok hc).2.2.1 _ (by rw [List.getD_eq_getElem?_getD, List.getElem?_eq_getElem (by show k < 5; omega)]; exact List.getElem_mem _)
        have := numB_length 6 ((nums m).getD k 0).toNat (by omega)
        omega
      refine ⟨rising_append h1 h2 (UInt8.le_iff_toNat_le.2 (Nat.zero_le _)) (rising_one hlt hle hb), le_app h2 le_one (UInt8.le_of_lt hlt)⟩
  obtain ⟨r5, l5⟩ := hN 5 (Nat.le_refl _)
  have r6 : rising 0 (f6 m) := rising_append r5 l5 (by decide) (rising_one (by decide) (by decide) (by rw [m.id.len]; decide))
  have l6 : ∀ f ∈ f6 m, f.1 ≤ 6 := le_app l5 le_one (by decide)
  have r7 : rising 0 (f7 m) := rising_append r6 l6 (by decide) (rising_one (by decide) (by decide) (by have := b.data; omega))
  have l7 : ∀ f ∈ f7 m, f.1 ≤ 7 := le_app l6 le_one (by decide)
  have r8 : rising 0 (f8 m) := rising_append r7 l7 (by decide) (rising_one (by decide) (by decide) (by rw [idsB_length]; have := b.ids; omega))
  have l8 : ∀ f ∈ f8 m, f.1 ≤ 8 := le_app l7 le_one (by decide)
  by_cases h : 0 < m.list.length
  · refine rising_append r8 l8 (by decide) (rising_one (by decide) (by decide) ?_)
    have := hs (9, m.list.flatMap runB) (by rw [fieldsM, if_pos h]; simp)
    simp only at this; omega
  · rw [fieldsM, if_neg h, List.append_nil]; exact r8
/-- What is written of a message is read as that message. -/
theorem readM_writeM {m : Msg} (hc : checkM m = 0) : readM (writeM m) = .ok m := by
  obtain ⟨h1, h2, _⟩ := checkM_ok hc
  have e0 : gB (writeM m) 0 = UInt8.ofNat m.kind.toNat := by rw [writeM, gB_zero]
  have ht : (UInt8.ofNat m.kind.toNat).toNat = m.kind.toNat := UInt8.toNat_ofNat_of_lt' (by show m.kind.toNat < 256; omega)
  rw [readM_of (by simp [writeM]) (by rw [e0, ht]; omega) (by rw [e0, ht]; omega), e0, ht, Int.toNat_of_nonneg (by omega)]
  rw [show (writeM m).drop 1 = (fieldsM m).flatMap putF from rfl, readF_fields _ _ _ (rising_fields hc), steps_fields hc]
  simp [hc]
end Sc
