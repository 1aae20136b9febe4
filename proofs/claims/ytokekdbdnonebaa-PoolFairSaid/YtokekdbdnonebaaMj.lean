/- Pools and books: what the statements of layer 12 lean on. -/
import Derived.Test.YtokekdbdnonebaaMi
namespace Sc
open Go
theorem stepM_err {m : Msg} {tag : UInt8} {b : List UInt8} {e : Int} (h : stepM m tag b = .error e) : e ≠ 0 := by
  unfold stepM at h
  repeat' split at h
  all_goals first
    | (cases h; decide)
    | cases h
theorem readF_err (rest : List UInt8) : ∀ (m : Msg) (last : UInt8) {e : Int}, readF m last rest = .error e → e ≠ 0 := by
  induction hk : rest.length using Nat.strongRecOn generalizing rest with
  | _ k ih =>
    subst hk
    intro m last e h
    cases hn : nextF last rest with
    | done => rw [readF_done hn] at h; cases h
    | bad e' => rw [readF_bad hn] at h; cases h; exact nextF_bad hn
    | item tag b r =>
      rw [readF_item hn] at h
      cases hs : stepM m tag b with
      | error e' => rw [hs] at h; cases h; exact stepM_err hs
      | ok m' => rw [hs] at h; exact ih _ (nextF_lt hn).1 r rfl m' tag h
theorem readM_err {b : List UInt8} {e : Int} (h : readM b = .error e) : e ≠ 0 := by
  unfold readM at h
  split at h
  · cases h; decide
  · split at h
    · cases h; decide
    · split at h
      · rename_i h1; cases h; exact readF_err _ _ _ h1
      · split at h
        · rename_i h1; cases h; exact h1
        · cases h
theorem checkE_errne {b : List UInt8} {e : Int} (h : checkE b = .error e) : e ≠ 0 := by
  cases hr : readM b with
  | error e' => rw [checkE_err hr] at h; cases h; exact readM_err hr
  | ok m =>
    rw [checkE_ok hr] at h
    split at h
    · cases h; decide
    · split at h
      · cases h; decide
      · cases h
abbrev nameW (a : W3) : Int × Int := (a.1, a.2.1)
/-- These may go into the book, each. -/
structure Good (k : Bk) (l : List W3) : Prop where
  bok : k.ok
  ent : ∀ a ∈ l, ∃ m, checkE a.2.2 = .ok m ∧ m.who = a.1 ∧ m.num = a.2.1
  small : ∀ a ∈ l, a.2.2.length ≤ 3000
  nd : (l.map nameW).Nodup
  new : ∀ a ∈ l, mget k.whr (nameW a) = none
  room : k.list.length + l.length ≤ 1000
theorem applyL_all (l : List W3) : ∀ (k : Bk), Good k l → ∃ k', applyL (l.map fun a => a.2.2) k = k' ∧ k'.ok ∧ k'.list = k.list ++ l.map (fun a => a.2.2) ∧ k'.heads = k.heads ∧ ∀ n, (mget k'.whr n).isSome = (decide (n ∈ l.map nameW) || (mget k.whr n).isSome) := by
  induction l with
  | nil => intro k h; exact ⟨k, rfl, h.bok, by simp, rfl, fun n => by simp⟩
  | cons a l ih =>
    intro k h
    obtain ⟨m, hm, hw, hn⟩ := h.ent a List.mem_cons_self
    have hroom := h.room
    simp only [List.length_cons] at hroom
    have hnd := h.nd
    simp only [List.map_cons, List.nodup_cons] at hnd
    have hname : (m.who, m.num) = nameW a := by rw [hw, hn]
    have hnew := h.new a List.mem_cons_self
    have hstep : applyL ((a :: l).map fun a => a.2.2) k = applyL (l.map fun a => a.2.2) (addB k m a.2.2) := by
      rw [List.map_cons, applyL_ok hm, hname, hnew, if_neg (by decide), if_neg (by omega)]
    have hg : Good (addB k m a.2.2) l := by
      refine ⟨addB_ok h.bok (by omega) m _, fun x hx => h.ent x (List.mem_cons_of_mem _ hx), fun x hx => h.small x (List.mem_cons_of_mem _ hx), hnd.2, fun x hx => ?_, by simp only [addB, List.length_append, List.length_cons, List.length_nil]; omega⟩
      show mget (mset k.whr (m.who, m.num) k.list.length) (nameW x) = none
      rw [mget_set, hname, if_neg, h.new x (List.mem_cons_of_mem _ hx)]
      intro e
      exact hnd.1 (by rw [← e]; exact List.mem_map_of_mem hx)
    obtain ⟨k', e1, e2, e3, e4, e5⟩ := ih _ hg
    refine ⟨k', by rw [hstep, e1], e2, by rw [e3]; simp [addB], e4, fun n => ?_⟩
    rw [e5]
    show (decide (n ∈ l.map nameW) || (mget (mset k.whr (m.who, m.num) k.list.length) n).isSome) = _
    rw [mget_set, hname, List.map_cons]
    by_cases hn : n = nameW a
    · simp [hn]
    · rw [if_neg hn]
      congr 1
      rw [decide_eq_decide, List.mem_cons]
      exact ⟨.inr, fun h => h.resolve_left hn⟩
theorem sizeF_le : ∀ (l : List (List UInt8)) (s : Nat), (∀ x ∈ l, x.length ≤ 3000) → s + 3000 * l.length ≤ 131072 → sizeF l s = 0
  | [], _, _, _ => rfl
  | x :: l, s, h, hs => by
    have hx := h x List.mem_cons_self
    simp only [List.length_cons] at hs
    rw [sizeF, if_neg (by omega)]
    exact sizeF_le l _ (fun y hy => h y (List.mem_cons_of_mem _ hy)) (by omega)
theorem jM_ok {xs : List (List UInt8)} (hl : xs.length ≤ 8) (h : ∀ x ∈ xs, x.length ≤ 3000) : checkM (jM xs) = 0 := by
  rw [checkM, if_neg (by simp [jM]), if_neg (by simp [jM, nums]), if_neg (by simp [jM]; omega)]
  exact sizeF_le xs 0 h (by omega)
theorem join_split {xs : List (List UInt8)} (hl : xs.length ≤ 8) (h : ∀ x ∈ xs, x.length ≤ 3000) : joinB xs = .ok (writeM (jM xs)) ∧ splitB (writeM (jM xs)) = xs := by
  have hc := jM_ok hl h
  refine ⟨by rw [joinB, if_neg (by omega), if_neg (fun h2 => h2 hc)], ?_⟩
  rw [splitB, readM_writeM hc]
  show splitM 0 (jM xs) = xs
  rw [splitM, if_neg]
  · rfl
  · rintro (h1 | h1 | h1)
    · exact h1 rfl
    · exact h1 rfl
    · exact absurd h1 (by show ¬ xs.length > 8; omega)
theorem take_sub {l : List W3} {a : W3} (h : a ∈ l.take 8) : a ∈ l := List.mem_of_mem_take h
theorem batch_split {k : Bk} {l : List W3} (h : Good k l) : batchE l = writeM (jM ((l.take 8).map fun a => a.2.2)) ∧ splitB (batchE l) = (l.take 8).map fun a => a.2.2 := by
  have h1 := join_split (xs := (l.take 8).map fun a => a.2.2) (by simp; omega) (fun x hx => by
    obtain ⟨a, ha, rfl⟩ := List.mem_map.1 hx
    exact h.small a (take_sub ha))
  have e : batchE l = writeM (jM ((l.take 8).map fun a => a.2.2)) := by rw [batchE, h1.1]
  exact ⟨e, by rw [e]; exact h1.2⟩
theorem Good.take {k : Bk} {l : List W3} (h : Good k l) (i : Nat) : Good k (l.take i) :=
  ⟨h.bok, fun a ha => h.ent a (List.mem_of_mem_take ha), fun a ha => h.small a (List.mem_of_mem_take ha), by rw [List.map_take]; exact h.nd.sublist (List.take_sublist _ _), fun a ha => h.new a (List.mem_of_mem_take ha), by have := h.room; rw [List.length_take]; omega⟩
theorem batch_length {k : Bk} {l : List W3} (h : Good k l) : (batchE l).length < 1099511627776 ∧ 0 < (batchE l).length := by
  obtain ⟨e, _⟩ := batch_split h
  have hc := jM_ok (xs := (l.take 8).map fun a => a.2.2) (by simp; omega) (fun x hx => by
    obtain ⟨a, ha, rfl⟩ := List.mem_map.1 hx
    exact h.small a (take_sub ha))
  have := outM_length hc (fieldsM (jM ((l.take 8).map fun a => a.2.2))).length
  rw [outM_all] at this
  rw [e]
  exact ⟨by omega, by simp [writeM]⟩
/-- One batch: the first eight go into the book, and wait no more. -/
theorem round_good {k : Bk} {l : List W3} (h : Good k l) : Good (applyB (batchE l) k) (l.drop 8) ∧ doneE (applyB (batchE l) k) l = l.drop 8 ∧ (applyB (batchE l) k).list = k.list ++ (l.take 8).map (fun a => a.2.2) ∧ (applyB (batchE l) k).heads.length = k.heads.length + 1 := by
  obtain ⟨_, hs⟩ := batch_split h
  obtain ⟨k', e1, e2, e3, e4, e5⟩ := applyL_all _ k (h.take 8)
  have ea : applyB (batchE l) k = headB k' := by rw [applyB, hs, e1]
  have hw : ∀ n, (mget (headB k').whr n).isSome = (decide (n ∈ (l.take 8).map nameW) || (mget k.whr n).isSome) := e5
  have hroom := h.room
  have hsplit : l.map nameW = (l.take 8).map nameW ++ (l.drop 8).map nameW := by rw [← List.map_append, List.take_append_drop]
  have hnd := h.nd
  rw [hsplit] at hnd
  obtain ⟨n1, n2, n3⟩ := List.nodup_append.1 hnd
  have hnew : ∀ a ∈ l.drop 8, (mget (headB k').whr (nameW a)).isSome = false := fun a ha => by
    rw [hw, h.new a (List.mem_of_mem_drop ha)]
    simp only [Option.isSome_none, Bool.or_false, decide_eq_false_iff_not]
    intro hm
    exact n3 _ hm _ (List.mem_map_of_mem ha) rfl
  rw [ea]
  refine ⟨⟨headB_ok e2, fun a ha => h.ent a (List.mem_of_mem_drop ha), fun a ha => h.small a (List.mem_of_mem_drop ha), n2, fun a ha => ?_, ?_⟩, ?_, e3, ?_⟩
  · have := hnew a ha
    cases hg : mget (headB k').whr (nameW a) with
    | none => rfl
    | some x => rw [hg] at this; cases this
  · show k'.list.length + _ ≤ 1000
    rw [e3]; simp; omega
  · have h1 : doneE (headB k') (l.take 8) = [] := by
      rw [doneE, List.filter_eq_nil_iff]
      intro a ha
      have := hw (nameW a)
      rw [show (mget (headB k').whr (a.1, a.2.1)).isSome = true by rw [show (a.1, a.2.1) = nameW a from rfl, this, decide_eq_true (List.mem_map_of_mem ha)]; rfl]
      decide
    have h2 : doneE (headB k') (l.drop 8) = l.drop 8 := by
      rw [doneE, List.filter_eq_self]
      intro a ha
      rw [show (mget (headB k').whr (a.1, a.2.1)).isSome = false from hnew a ha]
      rfl
    have h3 : doneE (headB k') l = doneE (headB k') (l.take 8) ++ doneE (headB k') (l.drop 8) := by
      rw [doneE, doneE, doneE, ← List.filter_append, List.take_append_drop]
    rw [h3, h1, h2]; rfl
  · show (k'.heads ++ _).length = _
    rw [e4]; simp
theorem good_nil {k : Bk} (h : k.ok) : Good k [] := ⟨h, fun a ha => (by cases ha), fun a ha => (by cases ha), List.nodup_nil, fun a ha => (by cases ha), by have := h.room; simpa using this⟩
/-- An entry that was put. -/
theorem put_good {l : List W3} {b : List UInt8} (h : Good zBk l) (hl : l.length ≤ 24) (hb : b.length ≤ 3000) : (putE l b).2.length ≤ 24 ∧ Good zBk (putE l b).2 ∧ ((putE l b).1 = 0 → (putE l b).2.map (fun a => a.2.2) = l.map (fun a => a.2.2) ++ [b]) ∧ ((putE l b).1 ≠ 0 → (putE l b).2 = l) := by
  cases hc : checkE b with
  | error e => rw [putE_err hc]; exact ⟨hl, h, fun e0 => absurd e0 (checkE_errne hc), fun _ => rfl⟩
  | ok m =>
    rw [putE_ok hc]
    split
    · exact ⟨hl, h, fun e => (by cases e), fun _ => rfl⟩
    · split
      · exact ⟨hl, h, fun e => (by cases e), fun _ => rfl⟩
      · split
        · exact ⟨hl, h, fun e => (by cases e), fun _ => rfl⟩
        · rename_i h1 h2 h3
          refine ⟨by simp; omega, ⟨h.bok, fun a ha => ?_, fun a ha => ?_, ?_, fun a ha => rfl, by simp [zBk]; omega⟩, (fun _ => by simp), fun e => absurd rfl e⟩
          · rcases List.mem_append.1 ha with ha | ha
            · exact h.ent a ha
            · obtain rfl := List.mem_singleton.1 ha
              exact ⟨m, hc, rfl, rfl⟩
          · rcases List.mem_append.1 ha with ha | ha
            · exact h.small a ha
            · obtain rfl := List.mem_singleton.1 ha
              exact hb
          · rw [List.map_append]
            refine List.nodup_append.2 ⟨h.nd, by simp, fun x hx y hy => ?_⟩
            simp only [List.map_cons, List.map_nil, List.mem_singleton] at hy
            subst hy
            rintro rfl
            obtain ⟨a, ha, e⟩ := List.mem_map.1 hx
            simp only [nameW, Prod.mk.injEq] at e
            exact h1 ⟨a, ha, e.1, e.2⟩

/-! ### Entries of one's own make -/
theorem eM_check {who num : Int} {text : List UInt8} (h1 : 0 ≤ who ∧ who ≤ 1099511627776) (h2 : 0 ≤ num ∧ num ≤ 1099511627776) (h3 : text.length ≤ 131072) : checkM (eM who num text) = 0 := by
  rw [checkM, if_neg (by simp [eM]), if_neg, if_neg (by simp [eM]; omega)]
  · rfl
  · rintro ⟨n, hn, h⟩
    simp only [nums, eM, List.mem_cons, List.not_mem_nil, or_false] at hn
    rcases hn with rfl | rfl | rfl | rfl | rfl <;> omega
theorem entry_ok {who num : Int} {text : List UInt8} (h1 : 0 ≤ who ∧ who ≤ 15) (h2 : 1 ≤ num ∧ num ≤ 1099511627776) (h3 : text.length ≤ 256) : checkE (writeM (eM who num text)) = .ok (eM who num text) ∧ entryE who num text = .ok (writeM (eM who num text)) := by
  have hc := eM_check (who := who) (num := num) (text := text) ⟨h1.1, by omega⟩ ⟨by omega, h2.2⟩ (by omega)
  have e : checkE (writeM (eM who num text)) = .ok (eM who num text) := by
    rw [checkE_ok (readM_writeM hc), if_neg, if_neg (by simp [eM]; omega)]
    simp only [eM]
    rintro (h | h | h | h | h | h)
    · exact h rfl
    · omega
    · omega
    · omega
    · exact h rfl
    · simp at h
  exact ⟨e, by rw [entryE, if_neg (fun h => h hc), e]⟩
theorem entry_length {who num : Int} (h1 : 0 ≤ who ∧ who ≤ 15) (h2 : 1 ≤ num ∧ num ≤ 1099511627776) : (writeM (eM who num [])).length ≤ 3000 := by
  have hc := eM_check (who := who) (num := num) (text := []) ⟨h1.1, by omega⟩ ⟨by omega, h2.2⟩ (by simp)
  have hf : fieldsM (eM who num []) = fN (eM who num []) 5 := by simp [fieldsM, f8, f7, f6, eM]
  have key : ∀ k, k ≤ 5 → ((fN (eM who num []) k).flatMap putF).length ≤ k * 12 := fun k => by
    induction k with
    | zero => intro _; simp [fN]
    | succ k ih =>
      intro hk
      have := ih (by omega)
      rw [fN, List.flatMap_append, List.length_append]
      have hb : 0 ≤ (nums (eM who num [])).getD k 0 ∧ (nums (eM who num [])).getD k 0 ≤ 1099511627776 := (checkM_ok hc).2.2.1 _ (by rw [List.getD_eq_getElem?_getD, List.getElem?_eq_getElem (by show k < 5; omega)]; exact List.getElem_mem _)
      have hn := numB_length 6 ((nums (eM who num [])).getD k 0).toNat (by omega)
      split
      · simp only [List.flatMap_cons, List.flatMap_nil, List.append_nil, putF, List.length_cons, runB_length]; omega
      · rw [List.flatMap_nil, List.length_nil]; omega
  have := key 5 (Nat.le_refl _)
  rw [writeM, hf, List.length_cons]; omega
/-- What waits when these came. -/
structure QInv (ws : List Int) (l : List W3) : Prop where
  ent : ∀ a ∈ l, 0 ≤ a.1 ∧ a.1 ≤ 5 ∧ 1 ≤ a.2.1 ∧ a.2.1 ≤ (ws.count a.1 : Int) ∧ a.2.2 = writeM (eM a.1 a.2.1 [])
  cnt : ∀ w, (l.filter fun a => a.1 = w).length = min 3 (ws.count w)
  nd : (l.map nameW).Nodup
  len : l.length ≤ ws.length
theorem qinv_nil : QInv [] [] := ⟨fun a ha => (by cases ha), fun w => (by simp), List.nodup_nil, Nat.le_refl _⟩
theorem count_snoc (ws : List Int) (w x : Int) : (ws ++ [w]).count x = ws.count x + if w = x then 1 else 0 := by
  rw [List.count_append, List.count_singleton]
  by_cases h : w = x <;> simp [h]
theorem qinv_step {ws : List Int} {l : List W3} {w : Int} (h : QInv ws l) (hw : 0 ≤ w ∧ w ≤ 5) (hl : ws.length < 20) :
    putE l (writeM (eM w ((ws.count w : Int) + 1) [])) = (if ws.count w < 3 then (0, l ++ [(w, (ws.count w : Int) + 1, writeM (eM w ((ws.count w : Int) + 1) []))]) else (120, l)) ∧
    QInv (ws ++ [w]) (putE l (writeM (eM w ((ws.count w : Int) + 1) []))).2 := by
  have hcl : ws.count w ≤ ws.length := List.count_le_length
  have hc := (entry_ok (who := w) (num := (ws.count w : Int) + 1) (text := []) ⟨hw.1, by omega⟩ ⟨by omega, by omega⟩ (by simp)).1
  have hmem : ¬ ∃ a ∈ l, a.1 = w ∧ a.2.1 = (ws.count w : Int) + 1 := by
    rintro ⟨a, ha, e1, e2⟩
    have := (h.ent a ha).2.2.2.1
    rw [e1] at this
    omega
  have hcnt := h.cnt w
  have hlen := h.len
  have hp : putE l (writeM (eM w ((ws.count w : Int) + 1) [])) = if ∃ a ∈ l, a.1 = w ∧ a.2.1 = (ws.count w : Int) + 1 then (5, l) else if (l.filter fun a => a.1 = w).length = 3 then (120, l) else if l.length = 24 then (3, l) else (0, l ++ [(w, (ws.count w : Int) + 1, writeM (eM w ((ws.count w : Int) + 1) []))]) := putE_ok hc
  have mono : ∀ x, (ws.count x : Int) ≤ ((ws ++ [w]).count x : Int) := fun x => by rw [count_snoc]; split <;> omega
  by_cases h3 : ws.count w < 3
  · have e : putE l (writeM (eM w ((ws.count w : Int) + 1) [])) = (0, l ++ [(w, (ws.count w : Int) + 1, writeM (eM w ((ws.count w : Int) + 1) []))]) := by
      rw [hp, if_neg hmem, if_neg (by rw [hcnt]; omega), if_neg (by omega)]
    refine ⟨by rw [e, if_pos h3], ?_⟩
    rw [e]
    refine ⟨fun a ha => ?_, fun x => ?_, ?_, by simp; omega⟩
    · rcases List.mem_append.1 ha with ha | ha
      · obtain ⟨a1, a2, a3, a4, a5⟩ := h.ent a ha
        exact ⟨a1, a2, a3, Int.le_trans a4 (mono _), a5⟩
      · obtain rfl := List.mem_singleton.1 ha
        refine ⟨hw.1, hw.2, by show (1 : Int) ≤ (ws.count w : Int) + 1; omega, ?_, rfl⟩
        show (ws.count w : Int) + 1 ≤ ((ws ++ [w]).count w : Int)
        rw [count_snoc, if_pos rfl]; omega
    · rw [List.filter_append, List.length_append, h.cnt x, count_snoc]
      by_cases hx : w = x
      · subst hx; simp; omega
      · simp [hx]
    · rw [List.map_append]
      refine List.nodup_append.2 ⟨h.nd, by simp, fun x hx y hy => ?_⟩
      simp only [List.map_cons, List.map_nil, List.mem_singleton] at hy
      subst hy
      rintro rfl
      obtain ⟨a, ha, e⟩ := List.mem_map.1 hx
      simp only [nameW, Prod.mk.injEq] at e
      exact hmem ⟨a, ha, e.1, e.2⟩
  · have e : putE l (writeM (eM w ((ws.count w : Int) + 1) [])) = (120, l) := by
      rw [hp, if_neg hmem, if_pos (by rw [hcnt]; omega)]
    refine ⟨by rw [e, if_neg h3], ?_⟩
    rw [e]
    refine ⟨fun a ha => ?_, fun x => ?_, h.nd, by simp; omega⟩
    · obtain ⟨a1, a2, a3, a4, a5⟩ := h.ent a ha
      exact ⟨a1, a2, a3, Int.le_trans a4 (mono _), a5⟩
    · show (l.filter fun a => a.1 = x).length = _
      rw [h.cnt x, count_snoc]
      by_cases hx : w = x
      · subst hx; simp; omega
      · simp [hx]
theorem qinv_good {ws : List Int} {l : List W3} (h : QInv ws l) (hl : ws.length ≤ 20) : Good zBk l := by
  refine ⟨zBk_ok, fun a ha => ?_, fun a ha => ?_, h.nd, fun a ha => rfl, ?_⟩
  · obtain ⟨a1, a2, a3, a4, a5⟩ := h.ent a ha
    have hcl : ws.count a.1 ≤ ws.length := List.count_le_length
    exact ⟨_, by rw [a5]; exact (entry_ok (text := []) ⟨a1, by omega⟩ ⟨a3, by omega⟩ (by simp)).1, rfl, rfl⟩
  · obtain ⟨a1, a2, a3, a4, a5⟩ := h.ent a ha
    have hcl : ws.count a.1 ≤ ws.length := List.count_le_length
    rw [a5]; exact entry_length ⟨a1, by omega⟩ ⟨a3, by omega⟩
  · have := h.len; simp [zBk]; omega
end Sc
